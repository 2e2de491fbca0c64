/- The contract of word.Take. -/
import Derived.Test.YtnadiddaeolanaaWord2
namespace Go.Proofs.Ytnadiddaeolanaa
open Go.RowKit
set_option linter.unusedVariables false
set_option linter.unusedSimpArgs false

set_option maxRecDepth 100000 in
theorem word_part (x : Int) (a b : Nat) (c : Nat) (w : World) (hx : 0 ≤ x ∧ x < 18446744073709551616) (ha : a ≤ 18) (hb : b ≤ 7) (hc : w.heap[c]? = some (.cells #[.int .u64 x] 27 (0, 0))) :
    Calls Try.prog 113 #[.int .i64 a, .int .i64 b, .pointer (some ⟨c, 0, none⟩)] w fun e w' => e = .returned (.int .u8 (x / 2 ^ a % 2 ^ b)) ∧ ∃ k, w' = w.drewN k := by
  refine calls_abs fun R hR => ?_
  have c1 := cell_at hc
  have n1 : ¬ (a : Int) < 0 := by omega
  have n2 : ¬ (b : Int) < 0 := by omega
  go_enter Try.func113, Try.ntmps113
  go_wp2_with fail
  go_quiet (fail)
  go_wp2_with fail
  have hp : 2 ^ b ≤ 2 ^ 7 := Nat.pow_le_pow_right (by decide) hb
  have hp0 := Nat.two_pow_pos b
  have hq0 := Nat.two_pow_pos a
  have e : (2 : Int) ^ b = ((2 ^ b : Nat) : Int) := by simp
  have e2 : (2 : Int) ^ a = ((2 ^ a : Nat) : Int) := by simp
  have h1 : 0 ≤ x / 2 ^ a := Int.ediv_nonneg hx.1 (by rw [e2]; omega)
  have h2 : x / 2 ^ a < 2 ^ 64 := Int.lt_of_le_of_lt (Int.ediv_le_self _ hx.1) hx.2
  have hm := bits_mask .u64 64 (by decide) (fun n h0 h1 => wrap_u64_small h0 h1) b (by omega) (x / 2 ^ a) h1 h2
  have w1 : IntKind.u64.wrap (2 ^ b) = 2 ^ b := wrap_u64_small (by omega) (by omega)
  have w2 : IntKind.u64.wrap ((2 : Int) ^ b - 1) = 2 ^ b - 1 := wrap_u64_small (by omega) (by omega)
  have h3 : x / 2 ^ a % 2 ^ b % 256 = x / 2 ^ a % 2 ^ b := by
    rw [e] at *
    have := Int.emod_nonneg (x / 2 ^ a) (b := ((2 ^ b : Nat) : Int)) (by omega)
    have := Int.emod_lt_of_pos (x / 2 ^ a) (b := ((2 ^ b : Nat) : Int)) (by omega)
    omega
  exact hR.out _ _ ⟨congrArg Ending.returned (by simp [w1, w2, hm, h3]), _, rfl⟩

/-- .. at literal places. -/
theorem word_part_at (x y : Int) (a b : Nat) (c : Nat) (w : World) (hx : 0 ≤ x ∧ x < 18446744073709551616) (ha : a ≤ 18) (hb : b ≤ 7) (hc : w.heap[c]? = some (.cells #[.int .u64 x] 27 (0, 0))) (hy : x / 2 ^ a % 2 ^ b = y) (p q : Int) (hp : p = a) (hq : q = b) :
    Calls Try.prog 113 #[.int .i64 p, .int .i64 q, .pointer (some ⟨c, 0, none⟩)] w fun e w' => e = .returned (.int .u8 y) ∧ ∃ k, w' = w.drewN k := by
  subst hy; subst hp; subst hq
  exact word_part x a b c w hx ha hb hc

set_option maxRecDepth 100000 in
set_option maxHeartbeats 4000000 in
theorem word_take (x : Int) (hx : 0 ≤ x ∧ x < 18446744073709551616) (w : World) :
    Calls Try.prog 58 #[.int .u64 x] w fun e w' => e = .returned (.tuple #[(takeH x).val, .int .i64 (if isHd x then 0 else 3)]) ∧ Keep [] w w' := by
  refine calls_abs fun R hR => ?_
  go_enter Try.func58, Try.ntmps58
  go_wp2_with fail
  generalize hw1 : World.alloc (World.alloc w _) _ = w1
  have hb1 : w1.heap[w.heap.size]? = some (.cells #[.int .u64 x] 27 (0, 0)) := by rw [← hw1]; exact alloc_keeps (alloc_new w _ w.heap.size rfl) _
  have hb2 : w1.heap[w.heap.size + 1]? = some (  .cells #[.int .u8 0, .int .u8 0, .bool false, .bool false, .int .u8 0, .int .u8 0, .int .u8 0] 100 (0, 0)) := by rw [← hw1]; exact alloc_new (w.alloc _) _ (w.heap.size + 1) (by simp)
  have K1 : Keep [] w w1 := by rw [← hw1]; exact (by repeat (first | (with_reducible exact Keep.refl _ _) | (with_reducible refine Keep.drew ?_) | (with_reducible refine Keep.drewN ?_ _) | (with_reducible refine Keep.alloc ?_ _) | (with_reducible refine Keep.setCell ?_ (by first | (simp; done) | (simp; omega) | (left; dsimp only; omega)) _)))
  have hs1 : w1.heap.size = w.heap.size + 2 := by rw [← hw1]; simp
  clear hw1
  refine Calls.mono (word_part_at x (x % 4) 0 2 w.heap.size _ hx (by omega) (by omega) ?_ (by omega) 0 2 rfl rfl) ?_
  · exact hb1
  rintro e w2 ⟨rfl, k0, rfl⟩
  go_wp2_with fail
  refine Calls.mono (word_part_at x (x / 4 % 2) 2 1 w.heap.size _ hx (by omega) (by omega) ?_ (by omega) 2 1 rfl rfl) ?_
  · exact hb1
  rintro e w2 ⟨rfl, k1, rfl⟩
  go_wp2_with fail
  refine Calls.mono (word_part_at x (x / 8 % 2) 3 1 w.heap.size _ hx (by omega) (by omega) ?_ (by omega) 3 1 rfl rfl) ?_
  · exact hb1
  rintro e w2 ⟨rfl, k2, rfl⟩
  go_wp2_with fail
  refine Calls.mono (word_part_at x (x / 16 % 2) 4 1 w.heap.size _ hx (by omega) (by omega) ?_ (by omega) 4 1 rfl rfl) ?_
  · exact hb1
  rintro e w2 ⟨rfl, k3, rfl⟩
  go_wp2_with fail
  refine Calls.mono (word_part_at x (x / 32 % 64) 5 6 w.heap.size _ hx (by omega) (by omega) ?_ (by omega) 5 6 rfl rfl) ?_
  · exact hb1
  rintro e w2 ⟨rfl, k4, rfl⟩
  go_wp2_with fail
  refine Calls.mono (word_part_at x (x / 2048 % 128) 11 7 w.heap.size _ hx (by omega) (by omega) ?_ (by omega) 11 7 rfl rfl) ?_
  · exact hb1
  rintro e w2 ⟨rfl, k5, rfl⟩
  go_wp2_with fail
  refine Calls.mono (word_part_at x (x / 262144 % 128) 18 7 w.heap.size _ hx (by omega) (by omega) ?_ (by omega) 18 7 rfl rfl) ?_
  · exact hb1
  rintro e w2 ⟨rfl, k6, rfl⟩
  go_wp2_with fail
  refine (word_put (hdOf x) (hdOf_u8 x hx.1) _).mono ?_
  rintro e w3 ⟨rfl, K3⟩
  have HK3 : Hid (Keep [] w w3) := Keep.trans (a := w) (by repeat (first | (with_reducible exact K1) | (with_reducible refine Keep.drew ?_) | (with_reducible refine Keep.drewN ?_ _) | (with_reducible refine Keep.alloc ?_ _) | (with_reducible refine Keep.setCell ?_ (by first | (simp; done) | (simp; omega) | (left; dsimp only; omega)) _))) K3
  have b1 := K3.get (b := w.heap.size) (alloc_keeps (w := w1.drewN _) hb1 _) (by simp)
  have b2 := K3.get (b := w.heap.size + 1) (alloc_keeps (w := w1.drewN _) hb2 _) (by simp)
  have b3 := K3.get (b := w.heap.size + 2) (alloc_new (w1.drewN _) _ (w.heap.size + 2) hs1.symm) (by simp)
  have c1 := cell_at b1
  have c2 := cell_at b2
  have c3 := cell_at b3
  have f2 := frozen_at b2
  clear hb1 hb2 K1
  have hsz := HK3.out.size
  generalize hy : (hdOf x).word = y
  cases hm : (hdOf x).may with
  | false =>
    have hi : isHd x = false := by simp [isHd, hm]
    go_wp2_with fail
    refine bodyPost_ret (v := .tuple #[Hd.zero.val, .int .i64 3]) ?_ rfl ?_
    · simp [results, Try.results58, go_sem, c2, Hd.zero, Hd.val]
    exact hR.out _ _ ⟨by simp [takeH, hi], by ((repeat (first | (with_reducible exact HK3.out) | (with_reducible refine Keep.drew ?_) | (with_reducible refine Keep.drewN ?_ _) | (with_reducible refine Keep.alloc ?_ _) | ((with_reducible refine Keep.setCell ?_ ?_ _); rotate_left; focus (first | (simp; done) | (simp; omega) | (left; dsimp only; omega))))); done)⟩
  | true =>
    by_cases hw : y = x
    · subst hw
      have hi : isHd y = true := by simp [isHd, hm, hy]
      go_wp2_with fail
      refine bodyPost_ret (v := .tuple #[(hdOf y).val, .int .i64 0]) ?_ rfl ?_
      · simp [results, Try.results58, go_sem, c2, Hd.zero, Hd.val, hdOf]
      exact hR.out _ _ ⟨by simp [takeH, hi], by ((repeat (first | (with_reducible exact HK3.out) | (with_reducible refine Keep.drew ?_) | (with_reducible refine Keep.drewN ?_ _) | (with_reducible refine Keep.alloc ?_ _) | ((with_reducible refine Keep.setCell ?_ ?_ _); rotate_left; focus (first | (simp; done) | (simp; omega) | (left; dsimp only; omega))))); done)⟩
    · have hw1 : (y == x) = false := by simp [hw]
      have hw2 : (y != x) = true := by simp [hw]
      have hi : isHd x = false := by simp [isHd, hm, hy, hw]
      go_wp2_with fail
      refine bodyPost_ret (v := .tuple #[Hd.zero.val, .int .i64 3]) ?_ rfl ?_
      · simp [results, Try.results58, go_sem, c2, Hd.zero, Hd.val]
      exact hR.out _ _ ⟨by simp [takeH, hi], by ((repeat (first | (with_reducible exact HK3.out) | (with_reducible refine Keep.drew ?_) | (with_reducible refine Keep.drewN ?_ _) | (with_reducible refine Keep.alloc ?_ _) | ((with_reducible refine Keep.setCell ?_ ?_ _); rotate_left; focus (first | (simp; done) | (simp; omega) | (left; dsimp only; omega))))); done)⟩

end Go.Proofs.Ytnadiddaeolanaa
