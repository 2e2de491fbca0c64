/- Words stay words. -/
import Derived.Test.YtnadiddaeolanaaShade2
namespace Go.Proofs.Ytnadiddaeolanaa
open Go.RowKit
set_option linter.unusedVariables false
set_option linter.unusedSimpArgs false

theorem Words.put {W : List Int} (h : Words W) (n v : Int) (hv : 0 ≤ v ∧ v < 18446744073709551616) : Words (putz W n v) := fun j => by
  unfold putz
  split
  · rename_i hi
    obtain ⟨i, rfl, hlt⟩ := inr_true hi
    simp only [Int.toNat_natCast]
    cases hj : inr W.length j with
    | false => rw [rdz_out (by simpa using hj)]; decide
    | true =>
      obtain ⟨q, rfl, hq⟩ := inr_true hj
      rw [rdz_nat (by simpa using hq)]
      by_cases e : i = q
      · subst e; simpa using hv
      · rw [List.getElem_set_ne e]
        have := h q
        rwa [rdz_nat hq] at this
  · exact h j
end Go.Proofs.Ytnadiddaeolanaa
