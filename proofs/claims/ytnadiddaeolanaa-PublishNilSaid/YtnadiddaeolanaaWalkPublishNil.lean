/- The walk of PublishNil. -/
import Derived.Test.YtnadiddaeolanaaWakes16
import Derived.WalkSmall
namespace Go.Proofs.Ytnadiddaeolanaa
open Go.RowKit Go.ChangeShapes Go.WideShapes
set_option linter.unusedVariables false
set_option linter.unusedSimpArgs false

set_option maxRecDepth 100000 in
set_option maxHeartbeats 4000000 in
theorem publish_nil_law (n c : Int) (w : World) :
    Calls Try.prog 3 #[.int .i64 n, .int .u8 c] w fun e w' => e = .returned (.bool true) ∧ Keep [] w w' := by
  refine calls_abs fun R hR => ?_
  go_enter Try.func3, Try.ntmps3
  go_wp2_with fail
  generalize hw1 : World.alloc w _ = w1
  have b1 : w1.heap[w.heap.size]? = some (.cells #[.slice none 0 0] 22 (0, 0)) := by rw [← hw1]; exact alloc_new _ _ _ rfl
  have K1 : Keep [] w w1 := by rw [← hw1]; exact (by repeat (first | (with_reducible exact Keep.refl _ _) | (with_reducible refine Keep.drew ?_) | (with_reducible refine Keep.drewN ?_ _) | (with_reducible refine Keep.alloc ?_ _) | (with_reducible refine Keep.setCell ?_ (by first | (simp; done) | (simp; omega) | (left; dsimp only; omega)) _)))
  have hs1 : w1.heap.size = w.heap.size + 1 := by rw [← hw1]; simp
  clear hw1
  generalize hz : w.heap.size = z at *
  have HK1 := Lib.hid K1; have HS1 := Lib.hid hs1
  have lz := lt_of_block b1
  clear hz K1 hs1
  refine (publish_no_memory n c _ w1).mono ?_
  rintro e w1' ⟨rfl, rfl⟩
  go_wp2_with fail
  refine (law16_made (v0 := .slice (some ⟨w1'.heap.size, 0, none⟩) 1 1) (n := 1) (xs := [2]) (Rd.lit _ _ _ rfl) rfl (by omega) (by omega)).mono ?_
  rintro e w3 ⟨b, g, t, l, rfl, A3, K3, hb, hg⟩
  have K3' : Keep [] w1' w3 := Keep.trans (b := w1'.alloc _) (by repeat (first | (with_reducible exact Keep.refl _ _) | (with_reducible refine Keep.drew ?_) | (with_reducible refine Keep.drewN ?_ _) | (with_reducible refine Keep.alloc ?_ _) | (with_reducible refine Keep.setCell ?_ (by first | (simp; done) | (simp; omega) | (left; dsimp only; omega)) _))) K3
  have HA3 := Lib.hid A3
  have HK3 := Lib.hid (HK1.out.trans K3')
  have hb3 := K3'.get b1 (by simp)
  have hn3 : z ≠ b ∧ z ≠ g := by have := HS1.out; simp at hb hg; omega
  clear A3 K3 K3' hb hg b1
  go_wp2_with fail
  refine (publish_no_work 0 c _ w3).mono ?_
  rintro e w3' ⟨rfl, rfl⟩
  have c3 := cell_at hb3
  have l3 := lt_of_block hb3
  have B3 := Lib.hid hb3
  clear hb3
  go_wp2_with fail
  refine (law16_same (HA3.out.keep (S := []) (by repeat (first | (with_reducible exact Keep.refl _ _) | (with_reducible refine Keep.drew ?_) | (with_reducible refine Keep.drewN ?_ _) | (with_reducible refine Keep.alloc ?_ _) | (with_reducible refine Keep.setCell ?_ (by first | (simp; done) | (simp; omega) | (left; dsimp only; omega)) _))) (by simp) (by simp)) (v0 := .slice (some ⟨w3'.heap.size, 0, none⟩) 1 1) (n := 1) (xs := [2]) (Rd.lit _ _ _ rfl) rfl).mono ?_
  rintro e w4 ⟨rfl, K4⟩
  have HK4 : Hid (Keep [] w w4) := HK3.out.trans (Keep.trans (b := w3'.alloc _) (by repeat (first | (with_reducible exact Keep.refl _ _) | (with_reducible refine Keep.drew ?_) | (with_reducible refine Keep.drewN ?_ _) | (with_reducible refine Keep.alloc ?_ _) | (with_reducible refine Keep.setCell ?_ (by first | (simp; done) | (simp; omega) | (left; dsimp only; omega)) _))) K4)
  rw [show (decide (([2] : List Int) = [2])) = true from by decide]
  clear K4 c3
  go_wp2_with fail
  refine (law16_wakes w4).mono ?_
  rintro e w5 ⟨rfl, K5⟩
  go_wp2_with fail
  exact hR.out _ _ ⟨rfl, HK4.out.trans K5⟩

set_option maxRecDepth 100000 in
theorem lawPublishNil_walk {H : Type} {enc : TypeId × Value → H} {base : Nat} (W : World) {v0 v1 : Value} {d0 d1 : DataW H} {p0 p1 : List MemPlace}
    (ok0 : Value.okWide Try.prog W .any base 3 v0) (h0 : DataW.Trod enc Try.prog W 0 (fun _ => true) true 3 v0 d0 p0)
    (ok1 : Value.okWide Try.prog W .any base 5 v1) (h1 : DataW.Trod enc Try.prog W 0 (fun _ => true) true 5 v1 d1 p1) :
    Calls Try.prog 3 #[v0, v1] W fun e w' => e = .returned (.bool true) ∧ Below W.heap.size W w' := by
  obtain ⟨a0, rfl, rfl, rfl, w0⟩ := open_int Try.underlying3 ok0 h0
  obtain ⟨a1, rfl, rfl, rfl, w1⟩ := open_int Try.underlying5 ok1 h1
  refine (publish_nil_law a0 a1 W).mono ?_
  rintro e w' ⟨rfl, K⟩
  exact ⟨rfl, K.below (Nat.le_refl _) (by simp)⟩
end Go.Proofs.Ytnadiddaeolanaa
