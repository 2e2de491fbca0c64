/- The contracts of package layout. -/
import Derived.Test.YtnadiddaeolanaaArena
import Derived.Deep.RegionHeld3
import Derived.Shelf.RegionOpenPlain
namespace Go.Proofs.Ytnadiddaeolanaa
open Go.RowKit
set_option linter.unusedVariables false
set_option linter.unusedSimpArgs false

/-- How many threads, global roots, blocks. -/
structure Lay where
  t : Nat
  g : Nat
  b : Nat
def Lay.val (l : Lay) : Value := .agg #[.int .i64 l.t, .int .i64 l.g, .int .i64 l.b]
def Lay.fits (l : Lay) : Prop := l.t ≤ 64 ∧ l.g ≤ 8 ∧ l.b ≤ 64
/-- The place of one in a row. -/
def spot (from_ n wide : Int) (i : Int) : Int := if 0 ≤ i ∧ i < n then from_ + i * wide else -1
def Lay.entry (l : Lay) (i : Int) : Int := spot (3 + l.t + l.g) l.b 1 i
def Lay.start (l : Lay) (i : Int) : Int := spot (3 + l.t + l.g + l.b) l.b 32 i
def Lay.global (l : Lay) (i : Int) : Int := spot (3 + l.t) l.g 1 i
def Lay.answer (l : Lay) (i : Int) : Int := spot 3 l.t 1 i

set_option maxRecDepth 100000 in
theorem layout_row (a n d : Int) (w : World) :
    Calls Try.prog 100 #[.int .i64 a, .int .i64 n, .int .i64 d] w fun e w' => ∃ p q r, e = .returned (.func (.func 138) #[] #[.pointer (some ⟨p, 0, none⟩), .pointer (some ⟨q, 0, none⟩), .pointer (some ⟨r, 0, none⟩)]) ∧
      w'.heap[p]? = some (.cells #[.int .i64 n] 3 (0, 0)) ∧ w'.heap[q]? = some (.cells #[.int .i64 a] 3 (0, 0)) ∧ w'.heap[r]? = some (.cells #[.int .i64 d] 3 (0, 0)) ∧ Keep [] w w' := by
  have hmf : ∀ (fn : Fn) (first cap : Array Value) (w : World), (Instr.makeFunc fn first cap).run Try.prog w = .ok (.func fn first cap) w := fun _ _ _ _ => rfl
  refine calls_abs fun R hR => ?_
  go_enter Try.func100, Try.ntmps100
  go_wp2_with fail
  exact hR.out _ _ ⟨_, _, _, rfl, alloc_keeps (alloc_new _ _ _ (by simp)) _, alloc_keeps (alloc_keeps (alloc_new _ _ _ rfl) _) _, alloc_new _ _ _ (by simp), (by repeat (first | (with_reducible exact Keep.refl _ _) | (with_reducible refine Keep.drew ?_) | (with_reducible refine Keep.drewN ?_ _) | (with_reducible refine Keep.alloc ?_ _) | (with_reducible refine Keep.setCell ?_ (by first | (simp; done) | (simp; omega) | (left; dsimp only; omega)) _)))⟩
set_option maxRecDepth 100000 in
theorem layout_row_fn (a n d : Int) (i : Int) (p q r : Nat) (ha : 0 ≤ a ∧ a ≤ 4096) (hn : 0 ≤ n ∧ n ≤ 4096) (hd : 0 ≤ d ∧ d ≤ 4096) (w : World) (h1 : w.heap[p]? = some (.cells #[.int .i64 n] 3 (0, 0))) (h2 : w.heap[q]? = some (.cells #[.int .i64 a] 3 (0, 0))) (h3 : w.heap[r]? = some (.cells #[.int .i64 d] 3 (0, 0))) :
    Calls Try.prog 138 #[.int .i64 i, .pointer (some ⟨p, 0, none⟩), .pointer (some ⟨q, 0, none⟩), .pointer (some ⟨r, 0, none⟩)] w fun e w' => e = .returned (.int .i64 (spot a n d i)) ∧ Keep [] w w' := by
  refine calls_abs fun R hR => ?_
  have c1 := cell_at h1; have c2 := cell_at h2; have c3 := cell_at h3
  clear h1 h2 h3
  by_cases i0 : i < 0
  · have hs : spot a n d i = -1 := by unfold spot; rw [if_neg (by omega)]
    go_enter Try.func138, Try.ntmps138
    go_wp2_with fail
    exact hR.out _ _ ⟨by rw [hs]; rfl, (by repeat (first | (with_reducible exact Keep.refl _ _) | (with_reducible refine Keep.drew ?_) | (with_reducible refine Keep.drewN ?_ _) | (with_reducible refine Keep.alloc ?_ _) | (with_reducible refine Keep.setCell ?_ (by first | (simp; done) | (simp; omega) | (left; dsimp only; omega)) _)))⟩
  by_cases i1 : n ≤ i
  · have hs : spot a n d i = -1 := by unfold spot; rw [if_neg (by omega)]
    go_enter Try.func138, Try.ntmps138
    go_wp2_with fail
    exact hR.out _ _ ⟨by rw [hs], (by repeat (first | (with_reducible exact Keep.refl _ _) | (with_reducible refine Keep.drew ?_) | (with_reducible refine Keep.drewN ?_ _) | (with_reducible refine Keep.alloc ?_ _) | (with_reducible refine Keep.setCell ?_ (by first | (simp; done) | (simp; omega) | (left; dsimp only; omega)) _)))⟩
  have hs : spot a n d i = a + i * d := by unfold spot; rw [if_pos (by omega)]
  have hb : 0 ≤ i * d ∧ i * d ≤ 4096 * 4096 := by
    refine ⟨Int.mul_nonneg (by omega) (by omega), ?_⟩
    exact Int.mul_le_mul (by omega) (by omega) (by omega) (by omega)
  have w1 : IntKind.i64.wrap (i * d) = i * d := by rw [IntKind.wrap_i64]; omega
  have w2 : IntKind.i64.wrap (a + i * d) = a + i * d := by rw [IntKind.wrap_i64]; omega
  go_enter Try.func138, Try.ntmps138
  go_wp2_with fail
  exact hR.out _ _ ⟨by rw [hs], (by repeat (first | (with_reducible exact Keep.refl _ _) | (with_reducible refine Keep.drew ?_) | (with_reducible refine Keep.drewN ?_ _) | (with_reducible refine Keep.alloc ?_ _) | (with_reducible refine Keep.setCell ?_ (by first | (simp; done) | (simp; omega) | (left; dsimp only; omega)) _)))⟩
set_option maxRecDepth 100000 in
theorem layout_table (l : Lay) (hl : l.fits) (w : World) :
    Calls Try.prog 101 #[l.val] w fun e w' => e = .returned (.int .i64 (3 + l.t + l.g)) ∧ Keep [] w w' := by
  refine calls_abs fun R hR => ?_
  obtain ⟨t, g, b⟩ := l
  obtain ⟨h1, h2, h3⟩ := hl
  dsimp only at h1 h2 h3
  unfold Lay.val
  go_enter Try.func101, Try.ntmps101
  go_wp2_with fail
  exact hR.out _ _ ⟨by simp, (by repeat (first | (with_reducible exact Keep.refl _ _) | (with_reducible refine Keep.drew ?_) | (with_reducible refine Keep.drewN ?_ _) | (with_reducible refine Keep.alloc ?_ _) | (with_reducible refine Keep.setCell ?_ (by first | (simp; done) | (simp; omega) | (left; dsimp only; omega)) _)))⟩
set_option maxRecDepth 100000 in
theorem layout_blocks (l : Lay) (w : World) :
    Calls Try.prog 53 #[l.val] w fun e w' => e = .returned (.int .i64 l.b) ∧ Keep [] w w' := by
  refine calls_abs fun R hR => ?_
  obtain ⟨t, g, b⟩ := l
  unfold Lay.val
  go_enter Try.func53, Try.ntmps53
  go_wp2_with fail
  exact hR.out _ _ ⟨by simp, (by repeat (first | (with_reducible exact Keep.refl _ _) | (with_reducible refine Keep.drew ?_) | (with_reducible refine Keep.drewN ?_ _) | (with_reducible refine Keep.alloc ?_ _) | (with_reducible refine Keep.setCell ?_ (by first | (simp; done) | (simp; omega) | (left; dsimp only; omega)) _)))⟩

set_option maxRecDepth 100000 in
set_option maxHeartbeats 2000000 in
theorem layout_entry (l : Lay) (hl : l.fits) (i : Int) (w : World) :
    Calls Try.prog 48 #[l.val, .int .i64 i] w fun e w' => e = .returned (.int .i64 (l.entry i)) ∧ Keep [] w w' := by
  refine calls_abs fun R hR => ?_
  have mixed : Try.prog.follows .mixedOrders = true := by kernel_rfl
  obtain ⟨h1, h2, h3⟩ := hl
  have htab := fun w => layout_table l ⟨h1, h2, h3⟩ w
  have hrow := fun w => layout_row (3 + l.t + l.g) l.b 1 w
  have hval : l.val = .agg #[.int .i64 l.t, .int .i64 l.g, .int .i64 l.b] := rfl
  rw [hval] at htab ⊢
  have hw1 : IntKind.i64.wrap (3 + (l.t : Int) + l.g + l.b) = 3 + l.t + l.g + l.b := by rw [IntKind.wrap_i64]; omega
  have hw2 : IntKind.i64.wrap (3 + (l.t : Int)) = 3 + l.t := by rw [IntKind.wrap_i64]; omega
  have HTAB := Lib.hid htab; have HROW := Lib.hid hrow
  have hres : l.entry i = spot (3 + l.t + l.g) l.b 1 i := by unfold Lay.entry; rfl
  have HRES := Lib.hid hres
  clear htab hrow hval hres
  go_enter Try.func48, Try.ntmps48
  go_wp2_with fail
  obtain ⟨z, hz⟩ : ∃ z, z = w.heap.size := ⟨_, rfl⟩
  simp only [← hz]
  generalize hw1' : World.alloc w _ = w1
  have b1 : w1.heap[z]? = some (.cells #[.int .i64 l.t, .int .i64 l.g, .int .i64 l.b] 53 (0, 0)) := by rw [← hw1']; exact alloc_new _ _ _ hz
  have K1 : Keep [] w w1 := by rw [← hw1']; exact (by repeat (first | (with_reducible exact Keep.refl _ _) | (with_reducible refine Keep.drew ?_) | (with_reducible refine Keep.drewN ?_ _) | (with_reducible refine Keep.alloc ?_ _) | (with_reducible refine Keep.setCell ?_ (by first | (simp; done) | (simp; omega) | (left; dsimp only; omega)) _)))
  clear hw1' hz
  have c0 : w1.cell? ⟨z, 0, none⟩ = some (.int .i64 l.t) := by rw [cell_at b1]; rfl
  have c1 : w1.cell? ⟨z, 1, none⟩ = some (.int .i64 l.g) := by rw [cell_at b1]; rfl
  have c2 : w1.cell? ⟨z, 2, none⟩ = some (.int .i64 l.b) := by rw [cell_at b1]; rfl
  have C0 := Lib.hid c0; have C1 := Lib.hid c1; have C2 := Lib.hid c2
  have HK1 := Lib.hid K1
  clear b1 K1
  go_region_held3 (fun w' => w'.cell? ⟨z, 0, none⟩ = some (.int .i64 l.t) ∧ w'.cell? ⟨z, 1, none⟩ = some (.int .i64 l.g) ∧ w'.cell? ⟨z, 2, none⟩ = some (.int .i64 l.b))
    (first
      | (refine ⟨Keep.cell (S := []) (w := w1) ?_ C0.out (by simp), Keep.cell (S := []) (w := w1) ?_ C1.out (by simp), Keep.cell (S := []) (w := w1) ?_ C2.out (by simp)⟩; all_goals (((repeat (first | (with_reducible exact Keep.refl _ _) | (with_reducible refine Keep.drew ?_) | (with_reducible refine Keep.drewN ?_ _) | (with_reducible refine Keep.alloc ?_ _) | ((with_reducible refine Keep.setCell ?_ ?_ _); rotate_left; focus (first | (simp; done) | (simp; omega) | (left; dsimp only; omega))))); done)))
      | (refine ⟨Keep.cell (S := []) (w := w1) ?_ C0.out (by simp), Keep.cell (S := []) (w := w1) ?_ C1.out (by simp), Keep.cell (S := []) (w := w1) ?_ C2.out (by simp)⟩; all_goals (((repeat (first | (with_reducible exact HK2.out) | (with_reducible refine Keep.drew ?_) | (with_reducible refine Keep.drewN ?_ _) | (with_reducible refine Keep.alloc ?_ _) | ((with_reducible refine Keep.setCell ?_ ?_ _); rotate_left; focus (first | (simp; done) | (simp; omega) | (left; dsimp only; omega))))); done)))
      | (refine ⟨Keep.cell (S := []) (w := w1) ?_ C0.out (by simp), Keep.cell (S := []) (w := w1) ?_ C1.out (by simp), Keep.cell (S := []) (w := w1) ?_ C2.out (by simp)⟩; all_goals (((repeat (first | (with_reducible exact HK3.out) | (with_reducible refine Keep.drew ?_) | (with_reducible refine Keep.drewN ?_ _) | (with_reducible refine Keep.alloc ?_ _) | ((with_reducible refine Keep.setCell ?_ ?_ _); rotate_left; focus (first | (simp; done) | (simp; omega) | (left; dsimp only; omega))))); done)))
      | (refine ⟨Keep.cell (S := []) (w := w1) ?_ C0.out (by simp), Keep.cell (S := []) (w := w1) ?_ C1.out (by simp), Keep.cell (S := []) (w := w1) ?_ C2.out (by simp)⟩; all_goals (((repeat (first | (with_reducible exact HK4.out) | (with_reducible refine Keep.drew ?_) | (with_reducible refine Keep.drewN ?_ _) | (with_reducible refine Keep.alloc ?_ _) | ((with_reducible refine Keep.setCell ?_ ?_ _); rotate_left; focus (first | (simp; done) | (simp; omega) | (left; dsimp only; omega))))); done))))
    (first
      | (go_at_call 101; refine (HTAB.out _).mono ?_; rintro e w2 ⟨rfl, K2⟩; have HK2 : Hid (Keep [] w1 w2) := (by refine Keep.trans (a := w1) ?_ K2; ((repeat (first | (with_reducible exact Keep.refl _ _) | (with_reducible refine Keep.drew ?_) | (with_reducible refine Keep.drewN ?_ _) | (with_reducible refine Keep.alloc ?_ _) | ((with_reducible refine Keep.setCell ?_ ?_ _); rotate_left; focus (first | (simp; done) | (simp; omega) | (left; dsimp only; omega))))); done)); clear K2)
      | (go_at_call 100; refine (HROW.out _).mono ?_; rintro e w3 ⟨p, q, r, rfl, P3, Q3, R3, K3⟩; have HK3 : Hid (Keep [] w1 w3) := (by refine Keep.trans (a := w1) ?_ K3; ((repeat (first | (with_reducible exact HK2.out) | (with_reducible refine Keep.drew ?_) | (with_reducible refine Keep.drewN ?_ _) | (with_reducible refine Keep.alloc ?_ _) | ((with_reducible refine Keep.setCell ?_ ?_ _); rotate_left; focus (first | (simp; done) | (simp; omega) | (left; dsimp only; omega))))); done)); have HP3 := Lib.hid P3; have HQ3 := Lib.hid Q3; have HR3 := Lib.hid R3; clear K3 P3 Q3 R3)
      | (go_at_call 138; refine (layout_row_fn (3 + l.t + l.g) l.b 1 i p q r (by omega) (by omega) (by omega) _ (Keep.get (S := []) (w := w3) (by ((repeat (first | (with_reducible exact Keep.refl _ _) | (with_reducible refine Keep.drew ?_) | (with_reducible refine Keep.drewN ?_ _) | (with_reducible refine Keep.alloc ?_ _) | ((with_reducible refine Keep.setCell ?_ ?_ _); rotate_left; focus (first | (simp; done) | (simp; omega) | (left; dsimp only; omega))))); done)) HP3.out (by simp)) (Keep.get (S := []) (w := w3) (by ((repeat (first | (with_reducible exact Keep.refl _ _) | (with_reducible refine Keep.drew ?_) | (with_reducible refine Keep.drewN ?_ _) | (with_reducible refine Keep.alloc ?_ _) | ((with_reducible refine Keep.setCell ?_ ?_ _); rotate_left; focus (first | (simp; done) | (simp; omega) | (left; dsimp only; omega))))); done)) HQ3.out (by simp)) (Keep.get (S := []) (w := w3) (by ((repeat (first | (with_reducible exact Keep.refl _ _) | (with_reducible refine Keep.drew ?_) | (with_reducible refine Keep.drewN ?_ _) | (with_reducible refine Keep.alloc ?_ _) | ((with_reducible refine Keep.setCell ?_ ?_ _); rotate_left; focus (first | (simp; done) | (simp; omega) | (left; dsimp only; omega))))); done)) HR3.out (by simp))).mono ?_; rintro e w4 ⟨rfl, K4⟩; have HK4 : Hid (Keep [] w1 w4) := (by refine Keep.trans (a := w1) ?_ K4; ((repeat (first | (with_reducible exact HK3.out) | (with_reducible refine Keep.drew ?_) | (with_reducible refine Keep.drewN ?_ _) | (with_reducible refine Keep.alloc ?_ _) | ((with_reducible refine Keep.setCell ?_ ?_ _); rotate_left; focus (first | (simp; done) | (simp; omega) | (left; dsimp only; omega))))); done)); clear K4))
  all_goals (
    go_wp2_with fail
    exact hR.out _ _ ⟨by rw [HRES.out]; rfl, HK1.out.trans (by ((repeat (first | (with_reducible exact HK4.out) | (with_reducible refine Keep.drew ?_) | (with_reducible refine Keep.drewN ?_ _) | (with_reducible refine Keep.alloc ?_ _) | ((with_reducible refine Keep.setCell ?_ ?_ _); rotate_left; focus (first | (simp; done) | (simp; omega) | (left; dsimp only; omega))))); done))⟩)
set_option maxRecDepth 100000 in
set_option maxHeartbeats 2000000 in
theorem layout_start (l : Lay) (hl : l.fits) (i : Int) (w : World) :
    Calls Try.prog 65 #[l.val, .int .i64 i] w fun e w' => e = .returned (.int .i64 (l.start i)) ∧ Keep [] w w' := by
  refine calls_abs fun R hR => ?_
  have mixed : Try.prog.follows .mixedOrders = true := by kernel_rfl
  obtain ⟨h1, h2, h3⟩ := hl
  have htab := fun w => layout_table l ⟨h1, h2, h3⟩ w
  have hrow := fun w => layout_row (3 + l.t + l.g + l.b) l.b 32 w
  have hval : l.val = .agg #[.int .i64 l.t, .int .i64 l.g, .int .i64 l.b] := rfl
  rw [hval] at htab ⊢
  have hw1 : IntKind.i64.wrap (3 + (l.t : Int) + l.g + l.b) = 3 + l.t + l.g + l.b := by rw [IntKind.wrap_i64]; omega
  have hw2 : IntKind.i64.wrap (3 + (l.t : Int)) = 3 + l.t := by rw [IntKind.wrap_i64]; omega
  have HTAB := Lib.hid htab; have HROW := Lib.hid hrow
  have hres : l.start i = spot (3 + l.t + l.g + l.b) l.b 32 i := by unfold Lay.start; rfl
  have HRES := Lib.hid hres
  clear htab hrow hval hres
  go_enter Try.func65, Try.ntmps65
  go_wp2_with fail
  obtain ⟨z, hz⟩ : ∃ z, z = w.heap.size := ⟨_, rfl⟩
  simp only [← hz]
  generalize hw1' : World.alloc w _ = w1
  have b1 : w1.heap[z]? = some (.cells #[.int .i64 l.t, .int .i64 l.g, .int .i64 l.b] 53 (0, 0)) := by rw [← hw1']; exact alloc_new _ _ _ hz
  have K1 : Keep [] w w1 := by rw [← hw1']; exact (by repeat (first | (with_reducible exact Keep.refl _ _) | (with_reducible refine Keep.drew ?_) | (with_reducible refine Keep.drewN ?_ _) | (with_reducible refine Keep.alloc ?_ _) | (with_reducible refine Keep.setCell ?_ (by first | (simp; done) | (simp; omega) | (left; dsimp only; omega)) _)))
  clear hw1' hz
  have c0 : w1.cell? ⟨z, 0, none⟩ = some (.int .i64 l.t) := by rw [cell_at b1]; rfl
  have c1 : w1.cell? ⟨z, 1, none⟩ = some (.int .i64 l.g) := by rw [cell_at b1]; rfl
  have c2 : w1.cell? ⟨z, 2, none⟩ = some (.int .i64 l.b) := by rw [cell_at b1]; rfl
  have C0 := Lib.hid c0; have C1 := Lib.hid c1; have C2 := Lib.hid c2
  have HK1 := Lib.hid K1
  clear b1 K1
  go_region_held3 (fun w' => w'.cell? ⟨z, 0, none⟩ = some (.int .i64 l.t) ∧ w'.cell? ⟨z, 1, none⟩ = some (.int .i64 l.g) ∧ w'.cell? ⟨z, 2, none⟩ = some (.int .i64 l.b))
    (first
      | (refine ⟨Keep.cell (S := []) (w := w1) ?_ C0.out (by simp), Keep.cell (S := []) (w := w1) ?_ C1.out (by simp), Keep.cell (S := []) (w := w1) ?_ C2.out (by simp)⟩; all_goals (((repeat (first | (with_reducible exact Keep.refl _ _) | (with_reducible refine Keep.drew ?_) | (with_reducible refine Keep.drewN ?_ _) | (with_reducible refine Keep.alloc ?_ _) | ((with_reducible refine Keep.setCell ?_ ?_ _); rotate_left; focus (first | (simp; done) | (simp; omega) | (left; dsimp only; omega))))); done)))
      | (refine ⟨Keep.cell (S := []) (w := w1) ?_ C0.out (by simp), Keep.cell (S := []) (w := w1) ?_ C1.out (by simp), Keep.cell (S := []) (w := w1) ?_ C2.out (by simp)⟩; all_goals (((repeat (first | (with_reducible exact HK2.out) | (with_reducible refine Keep.drew ?_) | (with_reducible refine Keep.drewN ?_ _) | (with_reducible refine Keep.alloc ?_ _) | ((with_reducible refine Keep.setCell ?_ ?_ _); rotate_left; focus (first | (simp; done) | (simp; omega) | (left; dsimp only; omega))))); done)))
      | (refine ⟨Keep.cell (S := []) (w := w1) ?_ C0.out (by simp), Keep.cell (S := []) (w := w1) ?_ C1.out (by simp), Keep.cell (S := []) (w := w1) ?_ C2.out (by simp)⟩; all_goals (((repeat (first | (with_reducible exact HK3.out) | (with_reducible refine Keep.drew ?_) | (with_reducible refine Keep.drewN ?_ _) | (with_reducible refine Keep.alloc ?_ _) | ((with_reducible refine Keep.setCell ?_ ?_ _); rotate_left; focus (first | (simp; done) | (simp; omega) | (left; dsimp only; omega))))); done)))
      | (refine ⟨Keep.cell (S := []) (w := w1) ?_ C0.out (by simp), Keep.cell (S := []) (w := w1) ?_ C1.out (by simp), Keep.cell (S := []) (w := w1) ?_ C2.out (by simp)⟩; all_goals (((repeat (first | (with_reducible exact HK4.out) | (with_reducible refine Keep.drew ?_) | (with_reducible refine Keep.drewN ?_ _) | (with_reducible refine Keep.alloc ?_ _) | ((with_reducible refine Keep.setCell ?_ ?_ _); rotate_left; focus (first | (simp; done) | (simp; omega) | (left; dsimp only; omega))))); done))))
    (first
      | (go_at_call 101; refine (HTAB.out _).mono ?_; rintro e w2 ⟨rfl, K2⟩; have HK2 : Hid (Keep [] w1 w2) := (by refine Keep.trans (a := w1) ?_ K2; ((repeat (first | (with_reducible exact Keep.refl _ _) | (with_reducible refine Keep.drew ?_) | (with_reducible refine Keep.drewN ?_ _) | (with_reducible refine Keep.alloc ?_ _) | ((with_reducible refine Keep.setCell ?_ ?_ _); rotate_left; focus (first | (simp; done) | (simp; omega) | (left; dsimp only; omega))))); done)); clear K2)
      | (go_at_call 100; refine (HROW.out _).mono ?_; rintro e w3 ⟨p, q, r, rfl, P3, Q3, R3, K3⟩; have HK3 : Hid (Keep [] w1 w3) := (by refine Keep.trans (a := w1) ?_ K3; ((repeat (first | (with_reducible exact HK2.out) | (with_reducible refine Keep.drew ?_) | (with_reducible refine Keep.drewN ?_ _) | (with_reducible refine Keep.alloc ?_ _) | ((with_reducible refine Keep.setCell ?_ ?_ _); rotate_left; focus (first | (simp; done) | (simp; omega) | (left; dsimp only; omega))))); done)); have HP3 := Lib.hid P3; have HQ3 := Lib.hid Q3; have HR3 := Lib.hid R3; clear K3 P3 Q3 R3)
      | (go_at_call 138; refine (layout_row_fn (3 + l.t + l.g + l.b) l.b 32 i p q r (by omega) (by omega) (by omega) _ (Keep.get (S := []) (w := w3) (by ((repeat (first | (with_reducible exact Keep.refl _ _) | (with_reducible refine Keep.drew ?_) | (with_reducible refine Keep.drewN ?_ _) | (with_reducible refine Keep.alloc ?_ _) | ((with_reducible refine Keep.setCell ?_ ?_ _); rotate_left; focus (first | (simp; done) | (simp; omega) | (left; dsimp only; omega))))); done)) HP3.out (by simp)) (Keep.get (S := []) (w := w3) (by ((repeat (first | (with_reducible exact Keep.refl _ _) | (with_reducible refine Keep.drew ?_) | (with_reducible refine Keep.drewN ?_ _) | (with_reducible refine Keep.alloc ?_ _) | ((with_reducible refine Keep.setCell ?_ ?_ _); rotate_left; focus (first | (simp; done) | (simp; omega) | (left; dsimp only; omega))))); done)) HQ3.out (by simp)) (Keep.get (S := []) (w := w3) (by ((repeat (first | (with_reducible exact Keep.refl _ _) | (with_reducible refine Keep.drew ?_) | (with_reducible refine Keep.drewN ?_ _) | (with_reducible refine Keep.alloc ?_ _) | ((with_reducible refine Keep.setCell ?_ ?_ _); rotate_left; focus (first | (simp; done) | (simp; omega) | (left; dsimp only; omega))))); done)) HR3.out (by simp))).mono ?_; rintro e w4 ⟨rfl, K4⟩; have HK4 : Hid (Keep [] w1 w4) := (by refine Keep.trans (a := w1) ?_ K4; ((repeat (first | (with_reducible exact HK3.out) | (with_reducible refine Keep.drew ?_) | (with_reducible refine Keep.drewN ?_ _) | (with_reducible refine Keep.alloc ?_ _) | ((with_reducible refine Keep.setCell ?_ ?_ _); rotate_left; focus (first | (simp; done) | (simp; omega) | (left; dsimp only; omega))))); done)); clear K4))
  all_goals (
    go_wp2_with fail
    exact hR.out _ _ ⟨by rw [HRES.out]; rfl, HK1.out.trans (by ((repeat (first | (with_reducible exact HK4.out) | (with_reducible refine Keep.drew ?_) | (with_reducible refine Keep.drewN ?_ _) | (with_reducible refine Keep.alloc ?_ _) | ((with_reducible refine Keep.setCell ?_ ?_ _); rotate_left; focus (first | (simp; done) | (simp; omega) | (left; dsimp only; omega))))); done))⟩)
set_option maxRecDepth 100000 in
theorem layout_global (l : Lay) (hl : l.fits) (i : Int) (w : World) :
    Calls Try.prog 116 #[l.val, .int .i64 i] w fun e w' => e = .returned (.int .i64 (l.global i)) ∧ Keep [] w w' := by
  refine calls_abs fun R hR => ?_
  obtain ⟨h1, h2, h3⟩ := hl
  have hres : l.global i = spot (3 + l.t) l.g 1 i := rfl
  have HRES := Lib.hid hres
  clear hres
  have hw2 : IntKind.i64.wrap (3 + (l.t : Int)) = 3 + l.t := by rw [IntKind.wrap_i64]; omega
  unfold Lay.val
  go_enter Try.func116, Try.ntmps116
  go_wp2_with fail
  refine (layout_row (3 + l.t) l.g 1 _).mono ?_
  rintro e w3 ⟨p, q, r, rfl, P3, Q3, R3, K3⟩
  have HK3 := Lib.hid (show Keep [] w w3 from Keep.trans (b := World.alloc _ _) (by repeat (first | (with_reducible exact Keep.refl _ _) | (with_reducible refine Keep.drew ?_) | (with_reducible refine Keep.drewN ?_ _) | (with_reducible refine Keep.alloc ?_ _) | (with_reducible refine Keep.setCell ?_ (by first | (simp; done) | (simp; omega) | (left; dsimp only; omega)) _))) K3)
  have HP3 := Lib.hid P3; have HQ3 := Lib.hid Q3; have HR3 := Lib.hid R3
  clear K3 P3 Q3 R3
  go_wp2_with fail
  refine (layout_row_fn (3 + l.t) l.g 1 i p q r (by omega) (by omega) (by omega) _ HP3.out HQ3.out HR3.out).mono ?_
  rintro e w4 ⟨rfl, K4⟩
  go_wp2_with fail
  exact hR.out _ _ ⟨by rw [HRES.out]; rfl, HK3.out.trans K4⟩
end Go.Proofs.Ytnadiddaeolanaa
