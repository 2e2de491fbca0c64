/- The contracts of demesneref16: Local, Refs. -/
import Derived.Test.YtnadiddaeolanaaLaw16
import Derived.Test.YtnadiddaeolanaaRef01
import Derived.Test.YtnadiddaeolanaaApp
import Derived.Shelf.RegionOpenPlain
import Derived.Deep.LoopGhost
namespace Go.Proofs.Ytnadiddaeolanaa
open Go.RowKit
set_option linter.unusedVariables false
set_option linter.unusedSimpArgs false

set_option maxRecDepth 100000 in
set_option maxHeartbeats 4000000 in
theorem ref16_local {w : World} {v0 : Value} {m : Nat} {W : List Int} (h : Rd w v0 m (u64s W)) (hm : W.length = m) (hW : Words W) (n : Int) :
    Calls Try.prog 129 #[v0, .int .i64 n] w fun e w' => e = .returned (.tuple #[(takeH (rdz W n)).val, .bool (isLoc (rdz W n))]) ∧ Keep [] w w' := by
  refine calls_abs fun R hR => ?_
  have mixed : Try.prog.follows .mixedOrders = true := by kernel_rfl
  obtain ⟨ao, cap, rfl, hcap, hmax⟩ := h.shape
  have H := Lib.hid h
  have HW := Lib.hid hW
  clear h hW
  cases hi : inr W.length n with
  | false =>
    rw [rdz_out hi] at hR
    rw [show takeH 0 = Hd.zero from rfl, show isLoc 0 = false from by decide] at hR
    rw [hm] at hi
    by_cases h0 : n < 0
    · go_enter Try.func129, Try.ntmps129
      go_wp2_with fail
      refine bodyPost_ret (v := .tuple #[Hd.zero.val, .bool false]) ?_ rfl ?_
      · simp [results, Try.results129, go_sem, Hd.zero, Hd.val]
      exact hR.out _ _ ⟨rfl, (by repeat (first | (with_reducible exact Keep.refl _ _) | (with_reducible refine Keep.drew ?_) | (with_reducible refine Keep.drewN ?_ _) | (with_reducible refine Keep.alloc ?_ _) | (with_reducible refine Keep.setCell ?_ (by first | (simp; done) | (simp; omega) | (left; dsimp only; omega)) _)))⟩
    · have h1 : (m : Int) ≤ n := by simp [inr] at hi; omega
      go_enter Try.func129, Try.ntmps129
      go_wp2_with fail
      refine bodyPost_ret (v := .tuple #[Hd.zero.val, .bool false]) ?_ rfl ?_
      · simp [results, Try.results129, go_sem, Hd.zero, Hd.val]
      exact hR.out _ _ ⟨rfl, (by repeat (first | (with_reducible exact Keep.refl _ _) | (with_reducible refine Keep.drew ?_) | (with_reducible refine Keep.drewN ?_ _) | (with_reducible refine Keep.alloc ?_ _) | (with_reducible refine Keep.setCell ?_ (by first | (simp; done) | (simp; omega) | (left; dsimp only; omega)) _)))⟩
  | true =>
    obtain ⟨i, rfl, hlt⟩ := inr_true hi
    obtain ⟨b4, o4, rfl, hb4, hc4⟩ := H.out.some (by rw [u64s_len]; omega)
    have e4 := hc4 i (.int .u64 W[i]) (by rw [u64s_get]; simp [hlt])
    have hx := HW.out i
    rw [rdz_nat hlt] at hx hR
    have i0 : ¬ (i : Int) < 0 := by omega
    have i1 : ¬ (m : Int) ≤ (i : Int) := by omega
    have i2 : (0 : Int) ≤ (i : Int) := by omega
    have i3 : (i : Int) < (m : Int) := by omega
    clear hc4 hi
    generalize W[i] = x at e4 hx hR
    go_enter Try.func129, Try.ntmps129
    go_wp2_with fail
    generalize hw1 : World.alloc w _ = w1
    have b2 : w1.heap[w.heap.size]? = some (.cells #[.int .u8 0, .int .u8 0, .bool false, .bool false, .int .u8 0, .int .u8 0, .int .u8 0] 122 (0, 0)) := by rw [← hw1]; exact alloc_new w _ w.heap.size rfl
    have K1 : Keep [] w w1 := by rw [← hw1]; exact (by repeat (first | (with_reducible exact Keep.refl _ _) | (with_reducible refine Keep.drew ?_) | (with_reducible refine Keep.drewN ?_ _) | (with_reducible refine Keep.alloc ?_ _) | (with_reducible refine Keep.setCell ?_ (by first | (simp; done) | (simp; omega) | (left; dsimp only; omega)) _)))
    clear hw1
    refine (ref01_take x hx w1).mono ?_
    rintro e w2 ⟨rfl, K2⟩
    have HK2 := Lib.hid (K1.trans K2)
    have b2 := K2.get b2 (by simp)
    have c2 := cell_at b2
    have f2 := frozen_at b2
    have l2 := lt_of_block b2
    have n1 : ¬ w.heap.size = w2.heap.size := by omega
    have n2 : ¬ w2.heap.size = w.heap.size := by omega
    clear b2 K1 K2 e4
    cases hi : isHd x with
    | false =>
      rw [show takeH x = Hd.zero from by simp [takeH, hi]] at hR ⊢
      have hloc : isLoc x = false := by simp [isLoc, hi]
      unfold Hd.val Hd.zero
      go_wp2_with fail
      go_region_o
      all_goals (
        go_wp2_with fail
        refine bodyPost_ret (v := .tuple #[Hd.zero.val, .bool false]) ?_ rfl ?_
        · simp [results, Try.results129, go_sem, c2, l2, n1, n2, Hd.zero, Hd.val]
        exact hR.out _ _ ⟨by rw [hloc], by ((repeat (first | (with_reducible exact HK2.out) | (with_reducible refine Keep.drew ?_) | (with_reducible refine Keep.drewN ?_ _) | (with_reducible refine Keep.alloc ?_ _) | ((with_reducible refine Keep.setCell ?_ ?_ _); rotate_left; focus (first | (simp; done) | (simp; omega) | (left; dsimp only; omega))))); done)⟩)
    | true =>
      rw [show takeH x = hdOf x from by simp [takeH, hi]] at hR ⊢
      by_cases hk : (hdOf x).kind = 2
      · have hk1 : ((hdOf x).kind == 2) = true := by simp [hk]
        have hloc : isLoc x = true := by simp [isLoc, hi, hk]
        clear hk
        unfold Hd.val
        go_wp2_with fail
        go_region_o
        all_goals (
          go_wp2_with fail
          refine bodyPost_ret (v := .tuple #[(hdOf x).val, .bool true]) ?_ rfl ?_
          · simp [results, Try.results129, go_sem, c2, l2, n1, n2, Hd.val]
          exact hR.out _ _ ⟨by rw [hloc], by ((repeat (first | (with_reducible exact HK2.out) | (with_reducible refine Keep.drew ?_) | (with_reducible refine Keep.drewN ?_ _) | (with_reducible refine Keep.alloc ?_ _) | ((with_reducible refine Keep.setCell ?_ ?_ _); rotate_left; focus (first | (simp; done) | (simp; omega) | (left; dsimp only; omega))))); done)⟩)
      · have hk1 : ((hdOf x).kind == 2) = false := by simp [hk]
        have hloc : isLoc x = false := by simp [isLoc, hi, hk]
        clear hk
        unfold Hd.val
        go_wp2_with fail
        go_region_o
        all_goals (
          go_wp2_with fail
          refine bodyPost_ret (v := .tuple #[(hdOf x).val, .bool false]) ?_ rfl ?_
          · simp [results, Try.results129, go_sem, c2, l2, n1, n2, Hd.val]
          exact hR.out _ _ ⟨by rw [hloc], by ((repeat (first | (with_reducible exact HK2.out) | (with_reducible refine Keep.drew ?_) | (with_reducible refine Keep.drewN ?_ _) | (with_reducible refine Keep.alloc ?_ _) | ((with_reducible refine Keep.setCell ?_ ?_ _); rotate_left; focus (first | (simp; done) | (simp; omega) | (left; dsimp only; omega))))); done)⟩)

theorem owns_base {w : World} {b b' : Nat} {e : TypeId} {size : Nat} {v : Value} {n : Nat} {xs : List Value} (h : w.ownsRow b e size v n xs) (hb : b' ≤ b) : w.ownsRow b' e size v n xs := by
  obtain ⟨h1, h2⟩ := h
  refine ⟨h1, ?_⟩
  rcases h2 with h2 | ⟨g, cap, cur, rfl, hb', r⟩
  · exact .inl h2
  · exact .inr ⟨g, cap, cur, rfl, Nat.le_trans hb hb', r⟩

/-- An object's references, as words have them. -/
def refsAt (W : List Int) (n : Int) : List Int := (List.range (takeH (rdz W n)).refs.toNat).map fun (i : Nat) => rdz W (n + 1 + (i : Int))
theorem refsAt_len (W : List Int) (n : Int) : (refsAt W n).length = (takeH (rdz W n)).refs.toNat := by simp [refsAt]

set_option maxRecDepth 100000 in
set_option maxHeartbeats 4000000 in
theorem ref16_refs {w : World} {v0 : Value} {m : Nat} {W : List Int} (h : Rd w v0 m (u64s W)) (hm : W.length = m) (hsm : m ≤ 4096) (hW : Words W) (i : Nat) (hlt : i < m) :
    Calls Try.prog 130 #[v0, .int .i64 i] w fun e w' => ∃ v', e = .returned v' ∧ w'.ownsRow w.heap.size 27 1 v' (refsAt W i).length (u64s (refsAt W i)) ∧ Keep [] w w' := by
  refine calls_abs fun R hR => ?_
  obtain ⟨ao, cap, rfl, hcap, hmax⟩ := h.shape
  have H := Lib.hid h
  have HW := Lib.hid hW
  clear h hW
  obtain ⟨b4, o4, rfl, hb4, hc4⟩ := H.out.some (by rw [u64s_len]; omega)
  have e4 := hc4 i (.int .u64 W[i]) (by rw [u64s_get]; simp [hm, hlt])
  have hx := HW.out i
  have hrf : Hid (rdz W i = W[i]) := rdz_nat (by omega)
  rw [hrf.out] at hx
  have hrefs := takeH_refs W[i] hx.1
  have hrl := refsAt_len W i
  rw [hrf.out] at hrl
  have i0 : (0 : Int) ≤ (i : Int) := by omega
  have i1 : (i : Int) < (m : Int) := by omega
  have HC4 := Lib.hid hc4
  clear hc4
  generalize hx0 : W[i] = x at e4 hx hrefs hrl hrf
  clear hx0
  go_enter Try.func130, Try.ntmps130
  go_wp2_with fail
  refine (ref01_take x hx w).mono ?_
  rintro e w2 ⟨rfl, K2⟩
  have HK2 := Lib.hid K2
  clear K2 e4
  unfold Hd.val
  generalize (if isHd x = true then (0 : Int) else 3) = er
  generalize takeH x = d at *
  obtain ⟨r, hr⟩ : ∃ r : Nat, d.refs = r := ⟨d.refs.toNat, by omega⟩
  have hr127 : r ≤ 127 := by omega
  obtain ⟨kind, colour, grey, marked, owner, refs, size⟩ := d
  dsimp only at hr hrl ⊢
  subst hr
  simp only [Int.toNat_natCast] at hrl
  have HRL := Lib.hid hrl
  clear hrl hrefs
  go_wp2_with fail
  generalize hw3 : World.alloc w2 _ = w3
  have b3 : w3.heap[w2.heap.size]? = some (.cells #[.int .u8 kind, .int .u8 colour, .bool grey, .bool marked, .int .u8 owner, .int .u8 r, .int .u8 size] 122 (0, 0)) := by rw [← hw3]; exact alloc_new w2 _ w2.heap.size rfl
  have K3 : Keep [] w w3 := by rw [← hw3]; exact HK2.out.trans (by repeat (first | (with_reducible exact Keep.refl _ _) | (with_reducible refine Keep.drew ?_) | (with_reducible refine Keep.drewN ?_ _) | (with_reducible refine Keep.alloc ?_ _) | (with_reducible refine Keep.setCell ?_ (by first | (simp; done) | (simp; omega) | (left; dsimp only; omega)) _)))
  clear hw3
  have B3 := Lib.hid b3; have HK3 := Lib.hid K3
  have hsz := HK2.out.size
  clear b3 K3
  generalize hz : w2.heap.size = z at *
  clear hz
  go_loopg [5, 8] r (fun j s i' wr => ∃ q : Nat, q + j = r ∧ i' = .int .i64 q ∧ wr.ownsRow w3.heap.size 27 1 s q (u64s ((refsAt W i).take q)) ∧ Keep [] w3 wr)
  case atStart => exact ⟨0, by omega, rfl, World.ownsRow_nil _ _ _ _, Keep.refl _ _⟩
  case round =>
    obtain ⟨q, hq, rfl, hown, hkw⟩ := hrel
    obtain ⟨ar, cr, rfl, _, _⟩ := owns_val hown
    have HOW := Lib.hid hown; have HKW := Lib.hid hkw
    have b3 := hkw.get B3.out (by simp)
    have c3 := cell_at b3
    have l3 := lt_of_block b3
    clear hown hkw b3
    by_cases hqr : q < r
    · have q0 : (q : Int) < (r : Int) := by omega
      have hwr1 : IntKind.i64.wrap ((i : Int) + 1) = (i : Int) + 1 := by rw [IntKind.wrap_i64]; omega
      have hwr2 : IntKind.i64.wrap ((i : Int) + 1 + (q : Int)) = (i : Int) + 1 + q := by rw [IntKind.wrap_i64]; omega
      have hsucc : Hid ((refsAt W i).take (q + 1) = (refsAt W i).take q ++ [rdz W (i + 1 + q)]) := by
        have hl := HRL.out
        rw [Hid, List.take_succ_eq_append_getElem (by omega)]
        simp [refsAt]
      have hszw := HKW.out.size
      have hszk := HK3.out.size
      by_cases hin : i + 1 + q < m
      · have e5 := (HK3.out.trans HKW.out).cell (HC4.out (i + 1 + q) (.int .u64 W[i + 1 + q]) (by rw [u64s_get]; simp [hm, hin])) (by simp)
        have hv : Hid (rdz W (i + 1 + q) = W[i + 1 + q]) := by
          rw [Hid, show (i : Int) + 1 + q = ((i + 1 + q : Nat) : Int) from by omega]; exact rdz_nat (by omega)
        have j0 : (0 : Int) ≤ (i : Int) + 1 + q := by omega
        have j1 : (i : Int) + 1 + q < (m : Int) := by omega
        generalize hy : W[i + 1 + q] = y at e5 hv
        clear hy
        go_wp2_with (at_builtin; go_loud (refine wpList_append_rd _ rfl _ _ _ rfl elem_u64 w3.heap.size (.slice ar q cr) q _ rfl (((by repeat (first | (with_reducible exact Keep.refl _ _) | (with_reducible refine Keep.drew ?_) | (with_reducible refine Keep.drewN ?_ _) | (with_reducible refine Keep.alloc ?_ _) | (with_reducible refine Keep.setCell ?_ (by first | (simp; done) | (simp; omega) | (left; dsimp only; omega)) _))) : Keep [] wr _).owns HOW.out (fun _ _ => by simp)) _ 1 [.int .u64 y] rfl (Rd.lit _ _ _ rfl) (by simp) (by simp only [maxLen]; omega) (by omega) (by simp; omega) ?_); intro ao' cap' w7 ho hg; go_loud (have hK7 : Keep [] w3 w7 := Keep.grown (w := wr.alloc _) (by repeat (first | (with_reducible exact HKW.out) | (with_reducible refine Keep.drew ?_) | (with_reducible refine Keep.drewN ?_ _) | (with_reducible refine Keep.alloc ?_ _) | (with_reducible refine Keep.setCell ?_ (by first | (simp; done) | (simp; omega) | (left; dsimp only; omega)) _))) hg (fun g hg => .inl (owns_block HOW.out g hg).1); have HO7 := Lib.hid ho; have HK7 := Lib.hid hK7; clear ho hK7 hg))
        go_roundg (r - (q + 1))
        case measure => omega
        case rel =>
          refine ⟨q + 1, by omega, by go_num, ?_, HK7.out⟩
          have := HO7.out
          rw [hsucc.out, hv.out]
          simpa [u64s] using this
      · have hv : Hid (rdz W (i + 1 + q) = 0) := by
          rw [Hid]; exact rdz_out (by simp [inr]; omega)
        have j1 : ¬ (i : Int) + 1 + q < (m : Int) := by omega
        go_wp2_with (at_builtin; go_loud (refine wpList_append_rd _ rfl _ _ _ rfl elem_u64 w3.heap.size (.slice ar q cr) q _ rfl (((by repeat (first | (with_reducible exact Keep.refl _ _) | (with_reducible refine Keep.drew ?_) | (with_reducible refine Keep.drewN ?_ _) | (with_reducible refine Keep.alloc ?_ _) | (with_reducible refine Keep.setCell ?_ (by first | (simp; done) | (simp; omega) | (left; dsimp only; omega)) _))) : Keep [] wr _).owns HOW.out (fun _ _ => by simp)) _ 1 [.int .u64 0] rfl (Rd.lit _ _ _ rfl) (by simp) (by simp only [maxLen]; omega) (by omega) (by simp; omega) ?_); intro ao' cap' w7 ho hg; go_loud (have hK7 : Keep [] w3 w7 := Keep.grown (w := wr.alloc _) (by repeat (first | (with_reducible exact HKW.out) | (with_reducible refine Keep.drew ?_) | (with_reducible refine Keep.drewN ?_ _) | (with_reducible refine Keep.alloc ?_ _) | (with_reducible refine Keep.setCell ?_ (by first | (simp; done) | (simp; omega) | (left; dsimp only; omega)) _))) hg (fun g hg => .inl (owns_block HOW.out g hg).1); have HO7 := Lib.hid ho; have HK7 := Lib.hid hK7; clear ho hK7 hg))
        go_roundg (r - (q + 1))
        case measure => omega
        case rel =>
          refine ⟨q + 1, by omega, by go_num, ?_, HK7.out⟩
          have := HO7.out
          rw [hsucc.out, hv.out]
          simpa [u64s] using this
    · have hqe : q = r := by omega
      go_wp2_with fail
      refine hR.out _ _ ⟨_, rfl, ?_, HK3.out.trans HKW.out⟩
      have := HOW.out
      have hl := HRL.out
      rw [List.take_of_length_le (by omega)] at this
      rw [hl, ← hqe]
      exact owns_base this HK3.out.size
end Go.Proofs.Ytnadiddaeolanaa
