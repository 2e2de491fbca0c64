/- The contracts of word.Put and word.Take. -/
import Derived.Test.YtnadiddaeolanaaWord
import Derived.StillTailTactics
import Derived.Laws.BitsAllLaws
import Derived.Laws.BitsLemmas
namespace Go.Proofs.Ytnadiddaeolanaa
open Go.RowKit
set_option linter.unusedVariables false
set_option linter.unusedSimpArgs false

theorem wrap_u64_small {x : Int} (h0 : 0 ≤ x) (h1 : x < 18446744073709551616) : IntKind.u64.wrap x = x := by rw [IntKind.wrap_u64]; omega

theorem nat_or_bit (x i : Nat) (h : x / 2 ^ i % 2 = 0) : x ||| 2 ^ i = x + 2 ^ i := by
  have h1 := Nat.div_add_mod x (2 ^ (i + 1))
  have hr : x % 2 ^ (i + 1) < 2 ^ i := by
    have h2 : x % 2 ^ (i + 1) = x % 2 ^ i + 2 ^ i * (x / 2 ^ i % 2) := by rw [Nat.pow_succ, Nat.mod_mul]
    rw [h2, h]
    simpa using Nat.mod_lt _ (Nat.two_pow_pos i)
  generalize x % 2 ^ (i + 1) = r at *
  generalize x / 2 ^ (i + 1) = q at *
  have e1 : r ||| 2 ^ i = 2 ^ i + r := by
    have := Nat.two_pow_add_eq_or_of_lt hr 1
    rw [Nat.mul_one] at this
    rw [this, Nat.or_comm]
  have hr2 : r < 2 ^ (i + 1) := Nat.lt_trans hr (Nat.pow_lt_pow_right (by omega) (by omega))
  have hr3 : 2 ^ i + r < 2 ^ (i + 1) := by rw [Nat.pow_succ]; omega
  have e2 := Nat.two_pow_add_eq_or_of_lt hr2 q
  have e3 := Nat.two_pow_add_eq_or_of_lt hr3 q
  rw [← h1, e2, Nat.or_assoc, e1, ← e3, ← e2]
  omega

theorem or_bit (x : Int) (a : Nat) (h0 : 0 ≤ x) (h1 : x < 9223372036854775808) (ha : a ≤ 18) (h : x / 2 ^ a % 2 = 0) : bits BinOp.or .u64 x (IntKind.u64.wrap (1 * 2 ^ a)) = x + 2 ^ a := by
  obtain ⟨n, rfl⟩ := Int.eq_ofNat_of_zero_le h0
  have hp : 2 ^ a ≤ 2 ^ 18 := Nat.pow_le_pow_right (by decide) ha
  have e : (1 : Int) * 2 ^ a = ((2 ^ a : Nat) : Int) := by simp
  have e2 : (2 : Int) ^ a = ((2 ^ a : Nat) : Int) := by simp
  rw [e2] at h ⊢
  have h' : n / 2 ^ a % 2 = 0 := by omega
  have hn := nat_or_bit n a h'
  rw [Int.one_mul]
  clear e e2 h h'
  generalize 2 ^ a = p at *
  rw [wrap_u64_small (by omega) (by omega), u64_or_nat n p (by omega) (by omega), hn]
  omega

theorem or_hi (x n : Int) (a : Nat) (h0 : 0 ≤ x) (h1 : x < 2 ^ a) (hn : 0 ≤ n) (hn2 : n ≤ 255) (ha : a ≤ 18) : bits BinOp.or .u64 x (IntKind.u64.wrap (n * 2 ^ a)) = x + n * 2 ^ a := by
  obtain ⟨x, rfl⟩ := Int.eq_ofNat_of_zero_le h0
  obtain ⟨n, rfl⟩ := Int.eq_ofNat_of_zero_le hn
  have hp : 2 ^ a ≤ 2 ^ 18 := Nat.pow_le_pow_right (by decide) ha
  have e : (n : Int) * 2 ^ a = ((n * 2 ^ a : Nat) : Int) := by simp
  have h1' : x < 2 ^ a := by exact_mod_cast h1
  have hm : n * 2 ^ a ≤ 255 * 2 ^ 18 := Nat.mul_le_mul (by omega) hp
  rw [e, wrap_u64_small (by omega) (by omega), u64_or_nat x (n * 2 ^ a) (by omega) (by omega), Nat.or_comm, Nat.mul_comm, ← Nat.two_pow_add_eq_or_of_lt h1' n]
  omega

set_option maxRecDepth 100000 in
theorem word_put_fn (x n : Int) (a : Nat) (c : Nat) (w : World) (hn : 0 ≤ n ∧ n ≤ 255) (ha : a ≤ 18) (hc : w.heap[c]? = some (.cells #[.int .u64 x] 27 (0, 0))) :
    Calls Try.prog 128 #[.int .u8 n, .int .i64 a, .pointer (some ⟨c, 0, none⟩)] w fun e w' => e = .returned (.tuple #[]) ∧ w'.heap[c]? = some (.cells #[.int .u64 (bits BinOp.or .u64 x (IntKind.u64.wrap (n * 2 ^ a)))] 27 (0, 0)) ∧ Keep [c] w w' := by
  refine calls_abs fun R hR => ?_
  have c1 : ∀ d, World.cell? ⟨w.heap, w.tape, d, w.os, w.output⟩ ⟨c, 0, none⟩ = some (.int .u64 x) := fun d => cell_at hc 0
  have f1 := frozen_at hc
  have n1 : ¬ (a : Int) < 0 := by omega
  have wn : IntKind.u64.wrap n = n := wrap_u64_small (by omega) (by omega)
  go_enter Try.func128, Try.ntmps128
  go_still_tail 6, (by kernel_rfl)
  change wpList _ _ _ _ _ w.drew
  go_wp2_with fail
  refine bodyPost_end (v := .tuple #[]) (by kernel_rfl) rfl ?_
  exact hR.out _ _ ⟨rfl, (put_at hc 0 _).trans (by simp [wn]), (by repeat (first | (with_reducible exact Keep.refl _ _) | (with_reducible refine Keep.drew ?_) | (with_reducible refine Keep.drewN ?_ _) | (with_reducible refine Keep.alloc ?_ _) | (with_reducible refine Keep.setCell ?_ (by first | (simp; done) | (simp; omega) | (left; dsimp only; omega)) _)))⟩

/-- What a Put$1 call leaves, at a literal place, at a known sum. -/
theorem word_put_at (x n y : Int) (a : Nat) (c : Nat) (w : World) (hn : 0 ≤ n ∧ n ≤ 255) (ha : a ≤ 18) (hc : w.heap[c]? = some (.cells #[.int .u64 x] 27 (0, 0))) (hy : bits BinOp.or .u64 x (IntKind.u64.wrap (n * 2 ^ a)) = y) (k : Int) (hk : k = a) :
    Calls Try.prog 128 #[.int .u8 n, .int .i64 k, .pointer (some ⟨c, 0, none⟩)] w fun e w' => e = .returned (.tuple #[]) ∧ w'.heap[c]? = some (.cells #[.int .u64 y] 27 (0, 0)) ∧ Keep [c] w w' := by
  subst hy; subst hk
  exact word_put_fn x n a c w hn ha hc

theorem Hd.may_bounds {h : Hd} (hm : h.may = true) : h.kind ≤ 3 ∧ h.colour ≤ 1 ∧ h.owner ≤ 63 ∧ h.size ≤ 95 ∧ h.refs ≤ h.size := by
  unfold Hd.may at hm
  split at hm
  · cases hm
  · omega

set_option maxRecDepth 100000 in
set_option maxHeartbeats 4000000 in
theorem word_put (h : Hd) (hu : h.u8) (w : World) :
    Calls Try.prog 78 #[h.val] w fun e w' => e = .returned (.tuple #[.int .u64 (if h.may then h.word else 0), .int .i64 (if h.may then 0 else 2)]) ∧ Keep [] w w' := by
  refine calls_abs fun R hR => ?_
  have hmc := word_may h hu
  have HMC := Lib.hid hmc
  clear hmc
  unfold Hd.val at *
  cases hm : h.may with
  | false =>
    go_enter Try.func78, Try.ntmps78
    go_wp2_with fail
    refine (HMC.out _).mono ?_
    rintro e w2 ⟨rfl, K2⟩
    rw [hm]
    have HK2 := Lib.hid K2; clear K2
    go_wp2_with fail
    exact hR.out _ _ ⟨by simp [hm], Keep.trans (by repeat (first | (with_reducible exact Keep.refl _ _) | (with_reducible refine Keep.drew ?_) | (with_reducible refine Keep.drewN ?_ _) | (with_reducible refine Keep.alloc ?_ _) | (with_reducible refine Keep.setCell ?_ (by first | (simp; done) | (simp; omega) | (left; dsimp only; omega)) _))) HK2.out⟩
  | true =>
    obtain ⟨b1, b2, b3, b4, b5⟩ := Hd.may_bounds hm
    obtain ⟨kind, colour, grey, marked, owner, refs, size⟩ := h
    obtain ⟨⟨k0, k1⟩, ⟨c0, c1⟩, ⟨o0, o1⟩, ⟨r0, r1⟩, ⟨s0, s1⟩⟩ := hu
    dsimp only at k0 k1 c0 c1 o0 o1 r0 r1 s0 s1 b1 b2 b3 b4 b5
    dsimp only
    dsimp only at HMC
    go_enter Try.func78, Try.ntmps78
    go_wp2_with fail
    refine (HMC.out _).mono ?_
    rintro e w2 ⟨rfl, K2⟩
    rw [hm]
    have HK2 : Hid (Keep [] w w2) := Keep.trans (by repeat (first | (with_reducible exact Keep.refl _ _) | (with_reducible refine Keep.drew ?_) | (with_reducible refine Keep.drewN ?_ _) | (with_reducible refine Keep.alloc ?_ _) | (with_reducible refine Keep.setCell ?_ (by first | (simp; done) | (simp; omega) | (left; dsimp only; omega)) _))) K2
    have bx2 := K2.get (alloc_new w _ w.heap.size rfl) (by simp)
    have cx2 := cell_at bx2
    have l2 := lt_of_block bx2
    have HB2 := Lib.hid bx2
    clear K2 bx2
    have wk : IntKind.u64.wrap kind = kind := wrap_u64_small (by omega) (by omega)
    have HL : w.heap.size < w2.heap.size := l2
    have HLS := HK2.out.size
    go_wp2_with fail
    refine (word_put_at (kind) (colour) (kind + 4 * colour) 2 w2.heap.size _ (by omega) (by omega) (alloc_new w2 _ w2.heap.size rfl) ((or_hi (kind) (colour) 2 (by omega) (by omega) (by omega) (by omega) (by omega)).trans (by omega)) 2 rfl).mono ?_
    rintro e w3 ⟨rfl, Hn, Kn⟩
    have bx3 := Kn.get (alloc_keeps HB2.out _) (by simp; omega)
    have HK3 : Hid (Keep [] w w3) := (Keep.trans HK2.out (by repeat (first | (with_reducible exact Keep.refl _ _) | (with_reducible refine Keep.drew ?_) | (with_reducible refine Keep.drewN ?_ _) | (with_reducible refine Keep.alloc ?_ _) | (with_reducible refine Keep.setCell ?_ (by first | (simp; done) | (simp; omega) | (left; dsimp only; omega)) _)))).fresh Kn (by simp; omega)
    have cx3 := cell_at bx3; have cw3 := cell_at Hn
    have H3 := Lib.hid Hn; have HB3 := Lib.hid bx3
    clear Hn Kn bx3 cx2
    go_wp2_with fail
    refine (word_put_at (kind + 4 * colour) (owner) (kind + 4 * colour + 32 * owner) 5 w2.heap.size _ (by omega) (by omega) (H3.out) ((or_hi (kind + 4 * colour) (owner) 5 (by omega) (by omega) (by omega) (by omega) (by omega)).trans (by omega)) 5 rfl).mono ?_
    rintro e w4 ⟨rfl, Hn, Kn⟩
    have bx4 := Kn.get HB3.out (by simp; omega)
    have HK4 : Hid (Keep [] w w4) := HK3.out.fresh Kn (by simp; omega)
    have cx4 := cell_at bx4; have cw4 := cell_at Hn
    have H4 := Lib.hid Hn; have HB4 := Lib.hid bx4
    clear Hn Kn bx4 cx3 cw3
    go_wp2_with fail
    refine (word_put_at (kind + 4 * colour + 32 * owner) (refs) (kind + 4 * colour + 32 * owner + 2048 * refs) 11 w2.heap.size _ (by omega) (by omega) (H4.out) ((or_hi (kind + 4 * colour + 32 * owner) (refs) 11 (by omega) (by omega) (by omega) (by omega) (by omega)).trans (by omega)) 11 rfl).mono ?_
    rintro e w5 ⟨rfl, Hn, Kn⟩
    have bx5 := Kn.get HB4.out (by simp; omega)
    have HK5 : Hid (Keep [] w w5) := HK4.out.fresh Kn (by simp; omega)
    have cx5 := cell_at bx5; have cw5 := cell_at Hn
    have H5 := Lib.hid Hn; have HB5 := Lib.hid bx5
    clear Hn Kn bx5 cx4 cw4
    go_wp2_with fail
    refine (word_put_at (kind + 4 * colour + 32 * owner + 2048 * refs) (size) (kind + 4 * colour + 32 * owner + 2048 * refs + 262144 * size) 18 w2.heap.size _ (by omega) (by omega) (H5.out) ((or_hi (kind + 4 * colour + 32 * owner + 2048 * refs) (size) 18 (by omega) (by omega) (by omega) (by omega) (by omega)).trans (by omega)) 18 rfl).mono ?_
    rintro e w6 ⟨rfl, Hn, Kn⟩
    have bx6 := Kn.get HB5.out (by simp; omega)
    have HK6 : Hid (Keep [] w w6) := HK5.out.fresh Kn (by simp; omega)
    have cx6 := cell_at bx6; have cw6 := cell_at Hn
    have H6 := Lib.hid Hn; have HB6 := Lib.hid bx6
    clear Hn Kn bx6 cx5 cw5
    cases grey with
    | false =>
      cases marked with
      | false =>
        go_wp2_with fail
        exact hR.out _ _ ⟨by simp [Hd.word, hm], HK6.out⟩
      | true =>
        go_wp2_with fail
        refine (word_put_at (kind + 4 * colour + 32 * owner + 2048 * refs + 262144 * size) (1) (kind + 4 * colour + 32 * owner + 2048 * refs + 262144 * size + 16) 4 w2.heap.size _ (by omega) (by omega) (H6.out) ((or_bit (kind + 4 * colour + 32 * owner + 2048 * refs + 262144 * size) 4 (by omega) (by omega) (by omega) (by omega)).trans (by omega)) 4 rfl).mono ?_
        rintro e w7 ⟨rfl, Hn, Kn⟩
        have bx7 := Kn.get HB6.out (by simp; omega)
        have HK7 : Hid (Keep [] w w7) := HK6.out.fresh Kn (by simp; omega)
        have cx7 := cell_at bx7; have cw7 := cell_at Hn
        have H7 := Lib.hid Hn; have HB7 := Lib.hid bx7
        clear Hn Kn bx7 cx6 cw6
        go_wp2_with fail
        exact hR.out _ _ ⟨by simp [Hd.word, hm], HK7.out⟩
    | true =>
      go_wp2_with fail
      refine (word_put_at (kind + 4 * colour + 32 * owner + 2048 * refs + 262144 * size) (1) (kind + 4 * colour + 32 * owner + 2048 * refs + 262144 * size + 8) 3 w2.heap.size _ (by omega) (by omega) (H6.out) ((or_bit (kind + 4 * colour + 32 * owner + 2048 * refs + 262144 * size) 3 (by omega) (by omega) (by omega) (by omega)).trans (by omega)) 3 rfl).mono ?_
      rintro e w7 ⟨rfl, Hn, Kn⟩
      have bx7 := Kn.get HB6.out (by simp; omega)
      have HK7 : Hid (Keep [] w w7) := HK6.out.fresh Kn (by simp; omega)
      have cx7 := cell_at bx7; have cw7 := cell_at Hn
      have H7 := Lib.hid Hn; have HB7 := Lib.hid bx7
      clear Hn Kn bx7 cx6 cw6
      cases marked with
      | false =>
        go_wp2_with fail
        exact hR.out _ _ ⟨by simp [Hd.word, hm], HK7.out⟩
      | true =>
        go_wp2_with fail
        refine (word_put_at (kind + 4 * colour + 32 * owner + 2048 * refs + 262144 * size + 8) (1) (kind + 4 * colour + 32 * owner + 2048 * refs + 262144 * size + 8 + 16) 4 w2.heap.size _ (by omega) (by omega) (H7.out) ((or_bit (kind + 4 * colour + 32 * owner + 2048 * refs + 262144 * size + 8) 4 (by omega) (by omega) (by omega) (by omega)).trans (by omega)) 4 rfl).mono ?_
        rintro e w8 ⟨rfl, Hn, Kn⟩
        have bx8 := Kn.get HB7.out (by simp; omega)
        have HK8 : Hid (Keep [] w w8) := HK7.out.fresh Kn (by simp; omega)
        have cx8 := cell_at bx8; have cw8 := cell_at Hn
        have H8 := Lib.hid Hn; have HB8 := Lib.hid bx8
        clear Hn Kn bx8 cx7 cw7
        go_wp2_with fail
        exact hR.out _ _ ⟨by simp [Hd.word, hm], HK8.out⟩
end Go.Proofs.Ytnadiddaeolanaa
