/- The contract of publish.Publish. -/
import Derived.Test.YtnadiddaeolanaaPublish3
namespace Go.Proofs.Ytnadiddaeolanaa
open Go.RowKit
set_option linter.unusedVariables false
set_option linter.unusedSimpArgs false

/-- How many words are a Local object's header. -/
def locs (W : List Int) : Nat := W.countP isLoc

theorem pubOf_not {x c : Int} (hx : 0 ≤ x) (hc : 0 ≤ c ∧ c ≤ 1) : isLoc (pubOf x c) = false := by
  have hm : pubOf x c % 4 = 3 := by
    obtain ⟨h1, h2, h3, h4, h5⟩ := pubH_u8 (c := c) hx ⟨hc.1, by omega⟩
    have hk : (pubH x c).kind = 3 := rfl
    unfold pubOf Hd.word
    rw [hk]
    split <;> split <;> omega
  unfold isLoc
  have : (hdOf (pubOf x c)).kind = 3 := hm
  rw [this]
  simp
theorem isLoc_zero : isLoc 0 = false := by decide
theorem loc_in {W : List Int} {n : Int} (h : isLoc (rdz W n) = true) : inr W.length n = true := by
  cases hi : inr W.length n with
  | true => rfl
  | false => rw [rdz_out hi, isLoc_zero] at h; cases h
theorem turn_measure (W Q : List Int) (n c : Int) (hW : Words W) (hc : 0 ≤ c ∧ c ≤ 1) : locs (turnWs W n c) + (turnQ W Q n).length = locs W + Q.length := by
  unfold turnWs turnQ turnW
  cases h : isLoc (rdz W n) with
  | false => simp [putz_rdz]
  | true =>
    obtain ⟨i, rfl, hlt⟩ := inr_true (loc_in h)
    have hb := hW i
    rw [rdz_nat hlt] at h hb ⊢
    simp only [if_true]
    rw [putz_nat hlt]
    unfold locs
    rw [List.countP_set hlt, h, pubOf_not hb.1 hc]
    have : 0 < W.countP isLoc := List.countP_pos_iff.2 ⟨_, List.getElem_mem hlt, h⟩
    simp
    omega

theorem turn_words {W : List Int} {n c : Int} (hW : Words W) (hc : 0 ≤ c ∧ c ≤ 1) : Words (turnWs W n c) := hW.put n _ (turnW_bounds (hW n) hc)
theorem look_inv (c n : Int) (hc : 0 ≤ c ∧ c ≤ 1) (s : List Int × List Int) (hW : Words s.1) (hq : ∀ q ∈ s.2, 0 ≤ q ∧ q < s.1.length) (m : Nat) :
    locs (lookRun c n m s).1 + (lookRun c n m s).2.length = locs s.1 + s.2.length ∧ locs (lookRun c n m s).1 ≤ locs s.1 ∧ Words (lookRun c n m s).1 ∧ (lookRun c n m s).1.length = s.1.length ∧ (∀ q ∈ (lookRun c n m s).2, 0 ≤ q ∧ q < s.1.length) ∧ ∃ t, (lookRun c n m s).2 = s.2 ++ t := by
  induction m with
  | zero => exact ⟨rfl, Nat.le_refl _, hW, rfl, hq, [], by simp [lookRun]⟩
  | succ m ih =>
    obtain ⟨i1, i2, i3, i4, i5, t, i6⟩ := ih
    rw [lookRun_succ]
    generalize lookRun c n m s = r at *
    unfold lookStep
    dsimp only
    split
    · exact ⟨i1, i2, i3, i4, i5, t, i6⟩
    · generalize wrap64 (rdz r.1 (n + 1 + m)) = x
      have hm := turn_measure r.1 r.2 x c i3 hc
      have hlen := turnQ_len r.1 r.2 x
      have hge : r.2.length ≤ (turnQ r.1 r.2 x).length := by unfold turnQ; split <;> simp
      refine ⟨by simp only; omega, by simp only; omega, turn_words i3 hc, (putz_length _ _ _).trans i4, fun q hq' => ?_, ?_⟩
      · unfold turnQ at hq'
        split at hq'
        · rename_i hl
          simp only [List.mem_append, List.mem_singleton] at hq'
          rcases hq' with h | rfl
          · exact i5 q h
          · obtain ⟨i, rfl, hlt⟩ := inr_true (loc_in hl)
            omega
        · exact i5 q hq'
      · unfold turnQ
        split
        · exact ⟨t ++ [x], by rw [i6]; simp⟩
        · exact ⟨t, i6⟩

/-- One look at the first place of the worklist, which goes. -/
def pubStep (c : Int) (s : List Int × List Int) : List Int × List Int :=
  let r := lookRun c (s.2.headD 0) (takeH (rdz s.1 (s.2.headD 0))).refs.toNat s
  (r.1, r.2.tail)
inductive PubTo (c : Int) : List Int × List Int → List Int → Prop where
  | done (W : List Int) : PubTo c (W, []) W
  | step (s : List Int × List Int) (W : List Int) (h : s.2 ≠ []) (k : PubTo c (pubStep c s) W) : PubTo c s W
end Go.Proofs.Ytnadiddaeolanaa
