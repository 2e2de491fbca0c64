/- The contracts of demesneref01. -/
import Derived.Test.YtnadiddaeolanaaWord3
namespace Go.Proofs.Ytnadiddaeolanaa
open Go.RowKit
set_option linter.unusedVariables false
set_option linter.unusedSimpArgs false

set_option maxRecDepth 100000 in
set_option maxHeartbeats 4000000 in
theorem ref01_may (h : Hd) (hu : h.u8) (w : World) :
    Calls Try.prog 79 #[h.val] w fun e w' => e = .returned (.bool h.may) ∧ Keep [] w w' := by
  obtain ⟨kind, colour, grey, marked, owner, refs, size⟩ := h
  obtain ⟨⟨k0, k1⟩, ⟨c0, c1⟩, ⟨o0, o1⟩, ⟨r0, r1⟩, ⟨s0, s1⟩⟩ := hu
  dsimp only at k0 k1 c0 c1 o0 o1 r0 r1 s0 s1
  refine calls_abs fun R hR => ?_
  unfold Hd.val
  dsimp only
  by_cases h1 : 3 < kind
  · go_enter Try.func79, Try.ntmps79
    go_wp2_with fail
    exact hR.out _ _ ⟨by simp [Hd.may, h1], (by repeat (first | (with_reducible exact Keep.refl _ _) | (with_reducible refine Keep.drew ?_) | (with_reducible refine Keep.drewN ?_ _) | (with_reducible refine Keep.alloc ?_ _) | (with_reducible refine Keep.setCell ?_ (by first | (simp; done) | (simp; omega) | (left; dsimp only; omega)) _)))⟩
  by_cases h2 : 1 < colour
  · go_enter Try.func79, Try.ntmps79
    go_wp2_with fail
    exact hR.out _ _ ⟨by simp [Hd.may, h1, h2], (by repeat (first | (with_reducible exact Keep.refl _ _) | (with_reducible refine Keep.drew ?_) | (with_reducible refine Keep.drewN ?_ _) | (with_reducible refine Keep.alloc ?_ _) | (with_reducible refine Keep.setCell ?_ (by first | (simp; done) | (simp; omega) | (left; dsimp only; omega)) _)))⟩
  by_cases h3 : 63 < owner
  · go_enter Try.func79, Try.ntmps79
    go_wp2_with fail
    exact hR.out _ _ ⟨by simp [Hd.may, h1, h2, h3], (by repeat (first | (with_reducible exact Keep.refl _ _) | (with_reducible refine Keep.drew ?_) | (with_reducible refine Keep.drewN ?_ _) | (with_reducible refine Keep.alloc ?_ _) | (with_reducible refine Keep.setCell ?_ (by first | (simp; done) | (simp; omega) | (left; dsimp only; omega)) _)))⟩
  by_cases h4 : 95 < size
  · go_enter Try.func79, Try.ntmps79
    go_wp2_with fail
    exact hR.out _ _ ⟨by simp [Hd.may, h1, h2, h3, h4], (by repeat (first | (with_reducible exact Keep.refl _ _) | (with_reducible refine Keep.drew ?_) | (with_reducible refine Keep.drewN ?_ _) | (with_reducible refine Keep.alloc ?_ _) | (with_reducible refine Keep.setCell ?_ (by first | (simp; done) | (simp; omega) | (left; dsimp only; omega)) _)))⟩
  by_cases h5 : size < refs
  · go_enter Try.func79, Try.ntmps79
    go_wp2_with fail
    exact hR.out _ _ ⟨by simp [Hd.may, h1, h2, h3, h4, h5], (by repeat (first | (with_reducible exact Keep.refl _ _) | (with_reducible refine Keep.drew ?_) | (with_reducible refine Keep.drewN ?_ _) | (with_reducible refine Keep.alloc ?_ _) | (with_reducible refine Keep.setCell ?_ (by first | (simp; done) | (simp; omega) | (left; dsimp only; omega)) _)))⟩
  by_cases q2 : kind < 2
  · by_cases q3 : colour = 0
    · subst q3
      by_cases q4 : size = 0
      · subst q4
        cases grey <;> (go_enter Try.func79, Try.ntmps79; go_wp2_with fail; exact hR.out _ _ ⟨by simp [Hd.may, h1, h2, h3, h4, h5, q2], (by repeat (first | (with_reducible exact Keep.refl _ _) | (with_reducible refine Keep.drew ?_) | (with_reducible refine Keep.drewN ?_ _) | (with_reducible refine Keep.alloc ?_ _) | (with_reducible refine Keep.setCell ?_ (by first | (simp; done) | (simp; omega) | (left; dsimp only; omega)) _)))⟩)
      · have q4' : (size == 0) = false := by simp [q4]
        go_enter Try.func79, Try.ntmps79
        go_wp2_with fail
        exact hR.out _ _ ⟨by simp [Hd.may, h1, h2, h3, h4, h5, q2, q4], (by repeat (first | (with_reducible exact Keep.refl _ _) | (with_reducible refine Keep.drew ?_) | (with_reducible refine Keep.drewN ?_ _) | (with_reducible refine Keep.alloc ?_ _) | (with_reducible refine Keep.setCell ?_ (by first | (simp; done) | (simp; omega) | (left; dsimp only; omega)) _)))⟩
    · have q3' : (colour == 0) = false := by simp [q3]
      go_enter Try.func79, Try.ntmps79
      go_wp2_with fail
      exact hR.out _ _ ⟨by simp [Hd.may, h1, h2, h3, h4, h5, q2, q3], (by repeat (first | (with_reducible exact Keep.refl _ _) | (with_reducible refine Keep.drew ?_) | (with_reducible refine Keep.drewN ?_ _) | (with_reducible refine Keep.alloc ?_ _) | (with_reducible refine Keep.setCell ?_ (by first | (simp; done) | (simp; omega) | (left; dsimp only; omega)) _)))⟩
  by_cases q3 : kind = 2
  · subst q3
    cases grey <;> (go_enter Try.func79, Try.ntmps79; go_wp2_with fail; exact hR.out _ _ ⟨by simp [Hd.may, h1, h2, h3, h4, h5, q2], (by repeat (first | (with_reducible exact Keep.refl _ _) | (with_reducible refine Keep.drew ?_) | (with_reducible refine Keep.drewN ?_ _) | (with_reducible refine Keep.alloc ?_ _) | (with_reducible refine Keep.setCell ?_ (by first | (simp; done) | (simp; omega) | (left; dsimp only; omega)) _)))⟩)
  · have q3' : (kind == 2) = false := by simp [q3]
    go_enter Try.func79, Try.ntmps79
    go_wp2_with fail
    exact hR.out _ _ ⟨by unfold Hd.may; rw [if_neg (by dsimp only; omega), if_neg (by dsimp only; omega), if_neg (by dsimp only; omega)], (by repeat (first | (with_reducible exact Keep.refl _ _) | (with_reducible refine Keep.drew ?_) | (with_reducible refine Keep.drewN ?_ _) | (with_reducible refine Keep.alloc ?_ _) | (with_reducible refine Keep.setCell ?_ (by first | (simp; done) | (simp; omega) | (left; dsimp only; omega)) _)))⟩

set_option maxRecDepth 100000 in
set_option maxHeartbeats 4000000 in
theorem ref01_word (h : Hd) (hu : h.u8) (w : World) :
    Calls Try.prog 80 #[h.val] w fun e w' => e = .returned (.int .u64 h.word) ∧ Keep [] w w' := by
  obtain ⟨kind, colour, grey, marked, owner, refs, size⟩ := h
  obtain ⟨⟨k0, k1⟩, ⟨c0, c1⟩, ⟨o0, o1⟩, ⟨r0, r1⟩, ⟨s0, s1⟩⟩ := hu
  dsimp only at k0 k1 c0 c1 o0 o1 r0 r1 s0 s1
  refine calls_abs fun R hR => ?_
  unfold Hd.val
  dsimp only
  have e1 : IntKind.u64.wrap kind = kind := wrap_u64_small (by omega) (by omega)
  have e2 : IntKind.u64.wrap colour = colour := wrap_u64_small (by omega) (by omega)
  have e3 : IntKind.u64.wrap owner = owner := wrap_u64_small (by omega) (by omega)
  have e4 : IntKind.u64.wrap refs = refs := wrap_u64_small (by omega) (by omega)
  have e5 : IntKind.u64.wrap size = size := wrap_u64_small (by omega) (by omega)
  cases grey <;> cases marked <;> (go_enter Try.func80, Try.ntmps80; go_wp2_with fail; exact hR.out _ _ ⟨congrArg Ending.returned (by simp [Hd.word]), (by repeat (first | (with_reducible exact Keep.refl _ _) | (with_reducible refine Keep.drew ?_) | (with_reducible refine Keep.drewN ?_ _) | (with_reducible refine Keep.alloc ?_ _) | (with_reducible refine Keep.setCell ?_ (by first | (simp; done) | (simp; omega) | (left; dsimp only; omega)) _)))⟩)

set_option maxRecDepth 100000 in
set_option maxHeartbeats 4000000 in
theorem ref01_take (x : Int) (hx : 0 ≤ x ∧ x < 18446744073709551616) (w : World) :
    Calls Try.prog 82 #[.int .u64 x] w fun e w' => e = .returned (.tuple #[(takeH x).val, .int .i64 (if isHd x then 0 else 3)]) ∧ Keep [] w w' := by
  refine calls_abs fun R hR => ?_
  go_enter Try.func82, Try.ntmps82
  go_wp2_with fail
  generalize hw1 : World.alloc (World.alloc w _) _ = w1
  have b2 : w1.heap[w.heap.size]? = some (.cells #[.int .u8 0, .int .u8 0, .bool false, .bool false, .int .u8 0, .int .u8 0, .int .u8 0] 122 (0, 0)) := by rw [← hw1]; exact alloc_keeps (alloc_new w _ w.heap.size rfl) _
  have b3 : w1.heap[w.heap.size + 1]? = some (.cells (hdOf x).cells 122 (0, 0)) := by rw [← hw1]; exact alloc_new (w.alloc _) _ (w.heap.size + 1) (by simp)
  have K1 : Keep [] w w1 := by rw [← hw1]; exact (by repeat (first | (with_reducible exact Keep.refl _ _) | (with_reducible refine Keep.drew ?_) | (with_reducible refine Keep.drewN ?_ _) | (with_reducible refine Keep.alloc ?_ _) | (with_reducible refine Keep.setCell ?_ (by first | (simp; done) | (simp; omega) | (left; dsimp only; omega)) _)))
  have hs1 : w1.heap.size = w.heap.size + 2 := by rw [← hw1]; simp
  clear hw1
  refine (ref01_may (hdOf x) (hdOf_u8 x hx.1) w1).mono ?_
  rintro e w3 ⟨rfl, K3⟩
  have HK3 : Hid (Keep [] w w3) := K1.trans K3
  have b2 := K3.get b2 (by simp)
  have b3 := K3.get b3 (by simp)
  simp only [hdOf, Hd.cells] at b3
  have c2 := cell_at b2
  have c3 := cell_at b3
  have f2 := frozen_at b2
  have l3 := lt_of_block b3
  have B2 := Lib.hid b2; have B3 := Lib.hid b3
  clear b2 b3 K3 K1
  cases hm : (hdOf x).may with
  | false =>
    have hi : isHd x = false := by simp [isHd, hm]
    go_wp2_with fail
    refine bodyPost_ret (v := .tuple #[Hd.zero.val, .int .i64 3]) ?_ rfl ?_
    · simp [results, Try.results82, go_sem, c2, Hd.zero, Hd.val]
    exact hR.out _ _ ⟨by simp [takeH, hi], by ((repeat (first | (with_reducible exact HK3.out) | (with_reducible refine Keep.drew ?_) | (with_reducible refine Keep.drewN ?_ _) | (with_reducible refine Keep.alloc ?_ _) | ((with_reducible refine Keep.setCell ?_ ?_ _); rotate_left; focus (first | (simp; done) | (simp; omega) | (left; dsimp only; omega))))); done)⟩
  | true =>
    go_wp2_with fail
    refine (ref01_word (hdOf x) (hdOf_u8 x hx.1) w3).mono ?_
    rintro e w4 ⟨rfl, K4⟩
    have HK4 : Hid (Keep [] w w4) := HK3.out.trans K4
    have b2 := K4.get B2.out (by simp)
    have b3 := K4.get B3.out (by simp)
    have c2 := cell_at b2
    have c3 := cell_at b3
    have f2 := frozen_at b2
    have l4 := lt_of_block b3
    clear b2 b3 K4
    generalize hy : (hdOf x).word = y
    by_cases hw : y = x
    · subst hw
      have hi : isHd y = true := by simp [isHd, hm, hy]
      go_wp2_with fail
      refine bodyPost_ret (v := .tuple #[(hdOf y).val, .int .i64 0]) ?_ rfl ?_
      · simp [results, Try.results82, go_sem, c2, Hd.zero, Hd.val, hdOf]
      exact hR.out _ _ ⟨by simp [takeH, hi], by ((repeat (first | (with_reducible exact HK4.out) | (with_reducible refine Keep.drew ?_) | (with_reducible refine Keep.drewN ?_ _) | (with_reducible refine Keep.alloc ?_ _) | ((with_reducible refine Keep.setCell ?_ ?_ _); rotate_left; focus (first | (simp; done) | (simp; omega) | (left; dsimp only; omega))))); done)⟩
    · have hw1 : (y == x) = false := by simp [hw]
      have hw2 : (y != x) = true := by simp [hw]
      have hi : isHd x = false := by simp [isHd, hm, hy, hw]
      go_wp2_with fail
      refine bodyPost_ret (v := .tuple #[Hd.zero.val, .int .i64 3]) ?_ rfl ?_
      · simp [results, Try.results82, go_sem, c2, Hd.zero, Hd.val]
      exact hR.out _ _ ⟨by simp [takeH, hi], by ((repeat (first | (with_reducible exact HK4.out) | (with_reducible refine Keep.drew ?_) | (with_reducible refine Keep.drewN ?_ _) | (with_reducible refine Keep.alloc ?_ _) | ((with_reducible refine Keep.setCell ?_ ?_ _); rotate_left; focus (first | (simp; done) | (simp; omega) | (left; dsimp only; omega))))); done)⟩
end Go.Proofs.Ytnadiddaeolanaa
