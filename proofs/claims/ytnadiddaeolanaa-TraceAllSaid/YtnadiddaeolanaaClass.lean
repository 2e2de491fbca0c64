/- The contracts of package class: Room, Words, Cells. -/
import Derived.Test.YtnadiddaeolanaaArena3
namespace Go.Proofs.Ytnadiddaeolanaa
open Go.RowKit
set_option linter.unusedVariables false
set_option linter.unusedSimpArgs false

/-- Fields of a cell; its words; how many lie in a block. -/
def roomC (c : Int) : Int := if c = 0 then 1 else if c = 1 then 2 else if c = 2 then 4 else if c = 3 then 8 else 0
def wordsC (c : Int) : Int := if c = 0 then 2 else if c = 1 then 3 else if c = 2 then 5 else if c = 3 then 9 else 0
def cellsC (c : Int) : Nat := if c = 0 then 16 else if c = 1 then 10 else if c = 2 then 6 else if c = 3 then 3 else 0
set_option maxRecDepth 100000 in
theorem class_rooms (w : World) :
    Calls Try.prog 145 #[] w fun x w' => x = .returned (.agg #[.int .i64 1, .int .i64 2, .int .i64 4, .int .i64 8]) ∧ Keep [] w w' := by
  refine calls_abs fun R hR => ?_
  go_enter Try.func145, Try.ntmps145
  go_wp2_with fail
  refine bodyPost_ret (v := .agg #[.int .i64 1, .int .i64 2, .int .i64 4, .int .i64 8]) ?_ rfl ?_
  · simp [results, Try.results145, go_sem]
  exact hR.out _ _ ⟨rfl, (by repeat (first | (with_reducible exact Keep.refl _ _) | (with_reducible refine Keep.drew ?_) | (with_reducible refine Keep.drewN ?_ _) | (with_reducible refine Keep.alloc ?_ _) | (with_reducible refine Keep.setCell ?_ (by first | (simp; done) | (simp; omega) | (left; dsimp only; omega)) _)))⟩
theorem class_cases (c : Int) : c < 0 ∨ 3 < c ∨ c = 0 ∨ c = 1 ∨ c = 2 ∨ c = 3 := by omega
set_option maxRecDepth 100000 in
theorem class_room (c : Int) (w : World) :
    Calls Try.prog 143 #[.int .i64 c] w fun x w' => x = .returned (.int .i64 (roomC c)) ∧ Keep [] w w' := by
  refine calls_abs fun R hR => ?_
  have hx0 : ∀ w : World, (Instr.index 183 (.agg #[.int .i64 1, .int .i64 2, .int .i64 4, .int .i64 8]) (.int .i64 0)).run Try.prog w = .ok (.int .i64 1) w := fun _ => by kernel_rfl
  have hx1 : ∀ w : World, (Instr.index 183 (.agg #[.int .i64 1, .int .i64 2, .int .i64 4, .int .i64 8]) (.int .i64 1)).run Try.prog w = .ok (.int .i64 2) w := fun _ => by kernel_rfl
  have hx2 : ∀ w : World, (Instr.index 183 (.agg #[.int .i64 1, .int .i64 2, .int .i64 4, .int .i64 8]) (.int .i64 2)).run Try.prog w = .ok (.int .i64 4) w := fun _ => by kernel_rfl
  have hx3 : ∀ w : World, (Instr.index 183 (.agg #[.int .i64 1, .int .i64 2, .int .i64 4, .int .i64 8]) (.int .i64 3)).run Try.prog w = .ok (.int .i64 8) w := fun _ => by kernel_rfl
  rcases class_cases c with h | h | rfl | rfl | rfl | rfl
  · have : roomC c = 0 := by unfold roomC; repeat (rw [if_neg (by omega)])
    rw [this] at hR
    have q1 : decide (c < 0) = true := by simp; omega
    go_enter Try.func143, Try.ntmps143
    go_wp2_with fail
    exact hR.out _ _ ⟨rfl, (by repeat (first | (with_reducible exact Keep.refl _ _) | (with_reducible refine Keep.drew ?_) | (with_reducible refine Keep.drewN ?_ _) | (with_reducible refine Keep.alloc ?_ _) | (with_reducible refine Keep.setCell ?_ (by first | (simp; done) | (simp; omega) | (left; dsimp only; omega)) _)))⟩
  · have : roomC c = 0 := by unfold roomC; repeat (rw [if_neg (by omega)])
    rw [this] at hR
    have q1 : decide (c < 0) = false := by simp; omega
    have q2 : decide ((4 : Int) ≤ c) = true := by simp; omega
    go_enter Try.func143, Try.ntmps143
    go_wp2_with fail
    exact hR.out _ _ ⟨rfl, (by repeat (first | (with_reducible exact Keep.refl _ _) | (with_reducible refine Keep.drew ?_) | (with_reducible refine Keep.drewN ?_ _) | (with_reducible refine Keep.alloc ?_ _) | (with_reducible refine Keep.setCell ?_ (by first | (simp; done) | (simp; omega) | (left; dsimp only; omega)) _)))⟩
  all_goals (
    simp only [show roomC 0 = 1 from by decide, show roomC 1 = 2 from by decide, show roomC 2 = 4 from by decide, show roomC 3 = 8 from by decide] at hR
    go_enter Try.func143, Try.ntmps143
    go_wp2_with fail
    refine (class_rooms _).mono ?_
    rintro e w2 ⟨rfl, K2⟩
    go_wp2_with fail
    exact hR.out _ _ ⟨rfl, K2⟩)
set_option maxRecDepth 100000 in
theorem class_words (c : Int) (w : World) :
    Calls Try.prog 141 #[.int .i64 c] w fun x w' => x = .returned (.int .i64 (wordsC c)) ∧ Keep [] w w' := by
  refine calls_abs fun R hR => ?_
  have hro := fun w => class_room c w
  have hcs : (roomC c = 0 ∧ wordsC c = 0) ∨ (roomC c = 1 ∧ wordsC c = 2) ∨ (roomC c = 2 ∧ wordsC c = 3) ∨ (roomC c = 4 ∧ wordsC c = 5) ∨ (roomC c = 8 ∧ wordsC c = 9) := by
    unfold roomC wordsC
    rcases class_cases c with h | h | rfl | rfl | rfl | rfl
    · left; constructor <;> repeat (rw [if_neg (by omega)])
    · left; constructor <;> repeat (rw [if_neg (by omega)])
    all_goals simp
  rcases hcs with ⟨h1, h2⟩ | ⟨h1, h2⟩ | ⟨h1, h2⟩ | ⟨h1, h2⟩ | ⟨h1, h2⟩ <;> (
    rw [h1] at hro; rw [h2] at hR
    have HRO := Lib.hid hro
    clear hro h1 h2
    go_enter Try.func141, Try.ntmps141
    go_wp2_with fail
    refine (HRO.out _).mono ?_
    rintro e w2 ⟨rfl, K2⟩
    go_wp2_with fail
    exact hR.out _ _ ⟨rfl, K2⟩)
set_option maxRecDepth 100000 in
theorem class_cells (c : Int) (w : World) :
    Calls Try.prog 140 #[.int .i64 c] w fun x w' => x = .returned (.int .i64 (cellsC c)) ∧ Keep [] w w' := by
  refine calls_abs fun R hR => ?_
  have hro := fun w => class_words c w
  have hcs : (wordsC c = 0 ∧ cellsC c = 0) ∨ (wordsC c = 2 ∧ cellsC c = 16) ∨ (wordsC c = 3 ∧ cellsC c = 10) ∨ (wordsC c = 5 ∧ cellsC c = 6) ∨ (wordsC c = 9 ∧ cellsC c = 3) := by
    unfold cellsC wordsC
    rcases class_cases c with h | h | rfl | rfl | rfl | rfl
    · left; constructor <;> repeat (rw [if_neg (by omega)])
    · left; constructor <;> repeat (rw [if_neg (by omega)])
    all_goals simp
  rcases hcs with ⟨h1, h2⟩ | ⟨h1, h2⟩ | ⟨h1, h2⟩ | ⟨h1, h2⟩ | ⟨h1, h2⟩ <;> (
    rw [h1] at hro; rw [h2] at hR
    have HRO := Lib.hid hro
    clear hro h1 h2
    go_enter Try.func140, Try.ntmps140
    go_wp2_with fail
    refine (HRO.out _).mono ?_
    rintro e w2 ⟨rfl, K2⟩
    go_wp2_with fail
    exact hR.out _ _ ⟨rfl, K2⟩)
end Go.Proofs.Ytnadiddaeolanaa
