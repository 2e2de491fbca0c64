/- The contracts of package give: Begin, Claim, Entry, Set. -/
import Derived.Test.YtnadiddaeolanaaLay
import Derived.Test.YtnadiddaeolanaaBmp
import Derived.Test.YtnadiddaeolanaaTbl2
import Derived.Test.YtnadiddaeolanaaArena3
import Derived.Test.YtnadiddaeolanaaMem
namespace Go.Proofs.Ytnadiddaeolanaa
open Go.RowKit
set_option linter.unusedVariables false
set_option linter.unusedSimpArgs false

set_option maxRecDepth 100000 in
set_option maxHeartbeats 4000000 in
theorem give_begin {w : World} {b g : Nat} {W : List Int} {t la : Int} (h : Arn w b g W t la) (l : Lay) (hl : l.fits) :
    Calls Try.prog 34 #[.iface 25 (.pointer (some ⟨b, 0, none⟩)), l.val] w fun e w' => e = .returned (.tuple #[]) ∧ Arn w' b g (putz W 0 (allN l.b : Nat)) (tz W.length 0 t) (lz W.length 0 la) ∧ Keep [b, g] w w' := by
  refine calls_abs fun R hR => ?_
  have mixed : Try.prog.follows .mixedOrders = true := by kernel_rfl
  have hinw := mem_write
  simp [go_sem] at hinw
  have hnil := mem_nil_write b
  have hbl := fun w => layout_blocks l w
  have hval : l.val = .agg #[.int .i64 l.t, .int .i64 l.g, .int .i64 l.b] := rfl
  rw [hval] at hbl ⊢
  have HBL := Lib.hid hbl; have H := Lib.hid h
  have hb64 := hl.2.2
  have lb := lt_of_block h.head; have lg := lt_of_block h.row
  clear hbl hval hl h
  go_enter Try.func34, Try.ntmps34
  go_wp2_with fail
  obtain ⟨z, hz⟩ : ∃ z, z = w.heap.size := ⟨_, rfl⟩
  simp only [← hz] at lb lg ⊢
  generalize hw1 : World.alloc w _ = w1
  have b1 : w1.heap[z]? = some (.cells #[.int .i64 l.t, .int .i64 l.g, .int .i64 l.b] 53 (0, 0)) := by rw [← hw1]; exact alloc_new _ _ _ hz
  have K1 : Keep [] w w1 := by rw [← hw1]; exact (by repeat (first | (with_reducible exact Keep.refl _ _) | (with_reducible refine Keep.drew ?_) | (with_reducible refine Keep.drewN ?_ _) | (with_reducible refine Keep.alloc ?_ _) | (with_reducible refine Keep.setCell ?_ (by first | (simp; done) | (simp; omega) | (left; dsimp only; omega)) _)))
  have H1 := Lib.hid (H.out.keep K1 (by simp) (by simp))
  clear hw1 hz
  have c0 : w1.cell? ⟨z, 0, none⟩ = some (.int .i64 l.t) := by rw [cell_at b1]; rfl
  have c1 : w1.cell? ⟨z, 1, none⟩ = some (.int .i64 l.g) := by rw [cell_at b1]; rfl
  have c2 : w1.cell? ⟨z, 2, none⟩ = some (.int .i64 l.b) := by rw [cell_at b1]; rfl
  have C0 := Lib.hid c0; have C1 := Lib.hid c1; have C2 := Lib.hid c2
  have HK1 := Lib.hid K1
  clear b1 K1
  go_region_held3 (fun w' => w'.cell? ⟨z, 0, none⟩ = some (.int .i64 l.t) ∧ w'.cell? ⟨z, 1, none⟩ = some (.int .i64 l.g) ∧ w'.cell? ⟨z, 2, none⟩ = some (.int .i64 l.b))
    (first
      | (refine ⟨Keep.cell (S := []) (w := w1) ?_ C0.out (by simp), Keep.cell (S := []) (w := w1) ?_ C1.out (by simp), Keep.cell (S := []) (w := w1) ?_ C2.out (by simp)⟩; all_goals (((repeat (first | (with_reducible exact Keep.refl _ _) | (with_reducible refine Keep.drew ?_) | (with_reducible refine Keep.drewN ?_ _) | (with_reducible refine Keep.alloc ?_ _) | ((with_reducible refine Keep.setCell ?_ ?_ _); rotate_left; focus (first | (simp; done) | (simp; omega) | (left; dsimp only; omega))))); done)))
      | (refine ⟨Keep.cell (S := []) (w := w1) ?_ C0.out (by simp), Keep.cell (S := []) (w := w1) ?_ C1.out (by simp), Keep.cell (S := []) (w := w1) ?_ C2.out (by simp)⟩; all_goals (((repeat (first | (with_reducible exact HK2.out) | (with_reducible refine Keep.drew ?_) | (with_reducible refine Keep.drewN ?_ _) | (with_reducible refine Keep.alloc ?_ _) | ((with_reducible refine Keep.setCell ?_ ?_ _); rotate_left; focus (first | (simp; done) | (simp; omega) | (left; dsimp only; omega))))); done)))
      | (refine ⟨Keep.cell (S := []) (w := w1) ?_ C0.out (by simp), Keep.cell (S := []) (w := w1) ?_ C1.out (by simp), Keep.cell (S := []) (w := w1) ?_ C2.out (by simp)⟩; all_goals (((repeat (first | (with_reducible exact HK3.out) | (with_reducible refine Keep.drew ?_) | (with_reducible refine Keep.drewN ?_ _) | (with_reducible refine Keep.alloc ?_ _) | ((with_reducible refine Keep.setCell ?_ ?_ _); rotate_left; focus (first | (simp; done) | (simp; omega) | (left; dsimp only; omega))))); done)))
      | (refine ⟨Keep.cell (S := [b, g]) (w := w1) ?_ C0.out (by simp; omega), Keep.cell (S := [b, g]) (w := w1) ?_ C1.out (by simp; omega), Keep.cell (S := [b, g]) (w := w1) ?_ C2.out (by simp; omega)⟩; all_goals (((repeat (first | (with_reducible exact HK4.out) | (with_reducible refine Keep.drew ?_) | (with_reducible refine Keep.drewN ?_ _) | (with_reducible refine Keep.alloc ?_ _) | ((with_reducible refine Keep.setCell ?_ ?_ _); rotate_left; focus (first | (simp; done) | (simp; omega) | (left; dsimp only; omega))))); done))))
    (first
      | (go_at_call 53; refine (HBL.out _).mono ?_; rintro e w2 ⟨rfl, K2⟩; have HK2 := Lib.hid (show Keep [] w1 w2 from by refine Keep.trans (a := w1) ?_ K2; ((repeat (first | (with_reducible exact Keep.refl _ _) | (with_reducible refine Keep.drew ?_) | (with_reducible refine Keep.drewN ?_ _) | (with_reducible refine Keep.alloc ?_ _) | ((with_reducible refine Keep.setCell ?_ ?_ _); rotate_left; focus (first | (simp; done) | (simp; omega) | (left; dsimp only; omega))))); done)); clear K2)
      | (go_at_call 86; refine (bitmap_all l.b hb64 _).mono ?_; rintro e w3 ⟨rfl, hw3⟩; have HK3 := Lib.hid (show Keep [] w1 w3 from by rw [hw3]; ((repeat (first | (with_reducible exact HK2.out) | (with_reducible refine Keep.drew ?_) | (with_reducible refine Keep.drewN ?_ _) | (with_reducible refine Keep.alloc ?_ _) | ((with_reducible refine Keep.setCell ?_ ?_ _); rotate_left; focus (first | (simp; done) | (simp; omega) | (left; dsimp only; omega))))); done)); clear hw3)
      | (go_at_call 28; refine (arena_write_any (b := b) (g := g) (W := W) (t := t) (l := la) (H1.out.keep (S := []) (by first | (((repeat (first | (with_reducible exact HK3.out) | (with_reducible refine Keep.drew ?_) | (with_reducible refine Keep.drewN ?_ _) | (with_reducible refine Keep.alloc ?_ _) | ((with_reducible refine Keep.setCell ?_ ?_ _); rotate_left; focus (first | (simp; done) | (simp; omega) | (left; dsimp only; omega))))); done)) | (((repeat (first | (with_reducible exact HK2.out) | (with_reducible refine Keep.drew ?_) | (with_reducible refine Keep.drewN ?_ _) | (with_reducible refine Keep.alloc ?_ _) | ((with_reducible refine Keep.setCell ?_ ?_ _); rotate_left; focus (first | (simp; done) | (simp; omega) | (left; dsimp only; omega))))); done))) (by simp) (by simp)) 0 (allN l.b : Nat)).mono ?_; rintro e w4 ⟨rfl, A4, K4⟩; have HA4 := Lib.hid A4; have HK4 := Lib.hid (show Keep [b, g] w1 w4 from by refine Keep.trans (a := w1) ?_ K4; ((repeat (first | (with_reducible exact HK3.out.mono (by simp)) | (with_reducible refine Keep.drew ?_) | (with_reducible refine Keep.drewN ?_ _) | (with_reducible refine Keep.alloc ?_ _) | ((with_reducible refine Keep.setCell ?_ ?_ _); rotate_left; focus (first | (simp; done) | (simp; omega) | (left; dsimp only; omega))))); done)); clear A4 K4))
  all_goals (
    go_wp2_with fail
    refine bodyPost_end (v := .tuple #[]) ?_ rfl ?_
    · kernel_rfl
    exact hR.out _ _ ⟨rfl, HA4.out.keep (S := []) (by ((repeat (first | (with_reducible exact Keep.refl _ _) | (with_reducible refine Keep.drew ?_) | (with_reducible refine Keep.drewN ?_ _) | (with_reducible refine Keep.alloc ?_ _) | ((with_reducible refine Keep.setCell ?_ ?_ _); rotate_left; focus (first | (simp; done) | (simp; omega) | (left; dsimp only; omega))))); done)) (by simp) (by simp), (HK1.out.mono (by simp)).trans (by ((repeat (first | (with_reducible exact HK4.out) | (with_reducible refine Keep.drew ?_) | (with_reducible refine Keep.drewN ?_ _) | (with_reducible refine Keep.alloc ?_ _) | ((with_reducible refine Keep.setCell ?_ ?_ _); rotate_left; focus (first | (simp; done) | (simp; omega) | (left; dsimp only; omega))))); done))⟩)
end Go.Proofs.Ytnadiddaeolanaa
