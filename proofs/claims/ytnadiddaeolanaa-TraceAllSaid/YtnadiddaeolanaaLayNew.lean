/- The contract of layout.New. -/
import Derived.Test.YtnadiddaeolanaaLay
namespace Go.Proofs.Ytnadiddaeolanaa
open Go.RowKit
set_option linter.unusedVariables false
set_option linter.unusedSimpArgs false

set_option maxRecDepth 100000 in
set_option maxHeartbeats 2000000 in
theorem layout_new (m t g b : Nat) (hm : 1 ≤ m ∧ m ≤ 4096) (ht : 1 ≤ t ∧ t ≤ 64) (hg : g ≤ 8) (hb : 3 + t + g + 33 * b ≤ m) (hb1 : 1 ≤ b) (hb2 : b = 64 ∨ b < 64 ∧ m < 3 + t + g + 33 * (b + 1)) (w : World) :
    Calls Try.prog 59 #[.int .i64 m, .int .i64 t, .int .i64 g] w fun e w' => e = .returned (.tuple #[(Lay.mk t g b).val, .int .i64 0]) ∧ Keep [] w w' := by
  refine calls_abs fun R hR => ?_
  have n1 : ¬ (m : Int) < 1 := by omega
  have n2 : ¬ (4096 : Int) < (m : Int) := by omega
  have n3 : ¬ (t : Int) < 1 := by omega
  have n4 : ¬ (64 : Int) < (t : Int) := by omega
  have n5 : ¬ (g : Int) < 0 := by omega
  have n6 : ¬ (8 : Int) < (g : Int) := by omega
  have w1 : IntKind.i64.wrap ((m : Int) - 3) = m - 3 := by rw [IntKind.wrap_i64]; omega
  have w2 : IntKind.i64.wrap ((m : Int) - 3 - t) = m - 3 - t := by rw [IntKind.wrap_i64]; omega
  have w3 : IntKind.i64.wrap ((m : Int) - 3 - t - g) = m - 3 - t - g := by rw [IntKind.wrap_i64]; omega
  go_enter Try.func59, Try.ntmps59
  by_cases hq : ((m : Int) - 3 - t - g) / 33 < 64
  · have hQ : ((m : Int) - 3 - t - g) / 33 = b := by omega
    rw [hQ] at hq
    have hb3 : ¬ (b : Int) < 1 := by omega
    go_wp2_with fail
    refine bodyPost_ret (v := .tuple #[(Lay.mk t g b).val, .int .i64 0]) ?_ rfl ?_
    · simp [results, Try.results59, go_sem, Lay.val]
    exact hR.out _ _ ⟨rfl, (by repeat (first | (with_reducible exact Keep.refl _ _) | (with_reducible refine Keep.drew ?_) | (with_reducible refine Keep.drewN ?_ _) | (with_reducible refine Keep.alloc ?_ _) | (with_reducible refine Keep.setCell ?_ (by first | (simp; done) | (simp; omega) | (left; dsimp only; omega)) _)))⟩
  · obtain rfl : b = 64 := by omega
    go_wp2_with fail
    refine bodyPost_ret (v := .tuple #[(Lay.mk t g 64).val, .int .i64 0]) ?_ rfl ?_
    · simp [results, Try.results59, go_sem, Lay.val]
    exact hR.out _ _ ⟨rfl, (by repeat (first | (with_reducible exact Keep.refl _ _) | (with_reducible refine Keep.drew ?_) | (with_reducible refine Keep.drewN ?_ _) | (with_reducible refine Keep.alloc ?_ _) | (with_reducible refine Keep.setCell ?_ (by first | (simp; done) | (simp; omega) | (left; dsimp only; omega)) _)))⟩
end Go.Proofs.Ytnadiddaeolanaa
