/- What a heap's words are, and stay, under passes. -/
import Derived.Test.YtnadiddaeolanaaWords21
import Derived.Test.YtnadiddaeolanaaRef13
namespace Go.Proofs.Ytnadiddaeolanaa
open Go.RowKit
set_option linter.unusedVariables false
set_option linter.unusedSimpArgs false

theorem rdz_putz (W : List Int) (a v j : Int) : rdz (putz W a v) j = if a = j ∧ inr W.length j = true then v else rdz W j := by
  cases hi : inr W.length j with
  | false =>
    rw [if_neg (by simp), rdz_out hi, rdz_out (by rw [putz_length]; exact hi)]
  | true =>
    obtain ⟨q, rfl, hq⟩ := inr_true hi
    rw [rdz_putz2 W a v q hq]
    simp

/-- The places of all cells, and their room: of n blocks. -/
abbrev spots (n : Nat) (bl : List Int) : List (Int × Int) := spotsS ⟨1, 2, n⟩ bl 0 n
theorem start_is (n b : Nat) (h : b < n) : (Lay.mk 1 2 n).start b = 6 + n + 32 * b := by
  unfold Lay.start spot; dsimp only; rw [if_pos (by omega)]; omega
theorem mem_spotsS {n lo k : Nat} {bl : List Int} {s : Int × Int} (h : s ∈ spotsS ⟨1, 2, n⟩ bl lo k) : ∃ b i : Nat, lo ≤ b ∧ b < lo + k ∧ i < cellsC (bl.getD b 0) ∧ s = ((Lay.mk 1 2 n).start b + (i : Int) * wordsC (bl.getD b 0), wordsC (bl.getD b 0) - 1) := by
  unfold spotsS at h
  obtain ⟨b, hb, h⟩ := List.mem_flatMap.1 h
  have hb := List.mem_range'_1.1 hb
  unfold spotsAt cellsAt startsC at h
  obtain ⟨a, ha, rfl⟩ := List.mem_map.1 h
  obtain ⟨s', hs', rfl⟩ := List.mem_map.1 ha
  obtain ⟨i, hi, rfl⟩ := List.mem_map.1 hs'
  exact ⟨b, i, hb.1, hb.2, List.mem_range.1 hi, rfl⟩
theorem mem_spots {n : Nat} {bl : List Int} {s : Int × Int} (h : s ∈ spots n bl) : ∃ b i : Nat, b < n ∧ i < cellsC (bl.getD b 0) ∧ s.1 = 6 + n + 32 * b + (i : Int) * wordsC (bl.getD b 0) ∧ s.2 = wordsC (bl.getD b 0) - 1 ∧ 1 ≤ s.2 ∧ 0 ≤ (i : Int) * wordsC (bl.getD b 0) ∧ (i : Int) * wordsC (bl.getD b 0) + wordsC (bl.getD b 0) ≤ 32 := by
  obtain ⟨b, i, -, hb, hi, rfl⟩ := mem_spotsS h
  have h1 := startsC_get (bl.getD b 0) i hi
  have h2 := startsC_bd (bl.getD b 0) _ (List.mem_of_getElem? h1)
  have h3 := wordsC_pos (bl.getD b 0) _ (List.mem_of_getElem? h1)
  exact ⟨b, i, by omega, hi, by dsimp only; rw [start_is n b (by omega)], rfl, by dsimp only; omega, h2.1, h2.2⟩
/-- No cell begins within another. -/
theorem spots_apart {n : Nat} {bl : List Int} {s s' : Int × Int} (h : s ∈ spots n bl) (h' : s' ∈ spots n bl) {d : Int} (hd : 0 ≤ d ∧ d ≤ s.2) (he : s.1 + d = s'.1) : d = 0 ∧ s.2 = s'.2 := by
  obtain ⟨b, i, hb, hi, e1, e2, e3, e4, e5⟩ := mem_spots h
  obtain ⟨b', i', hb', hi', f1, f2, f3, f4, f5⟩ := mem_spots h'
  have hbb : b = b' := by
    have e6 : (i : Int) * wordsC (bl.getD b 0) + d < 32 := by omega
    have f6 : (i' : Int) * wordsC (bl.getD b' 0) < 32 := by omega
    generalize (i : Int) * wordsC (bl.getD b 0) = x at *
    generalize (i' : Int) * wordsC (bl.getD b' 0) = y at *
    omega
  subst hbb
  refine ⟨?_, by rw [e2, f2]⟩
  have hw : 0 < wordsC (bl.getD b 0) := by omega
  have h6 : (i : Int) * wordsC (bl.getD b 0) + d = (i' : Int) * wordsC (bl.getD b 0) := by omega
  have hdw : d < wordsC (bl.getD b 0) := by omega
  generalize wordsC (bl.getD b 0) = w at *
  have h7 : d = ((i' : Int) - i) * w := by rw [Int.sub_mul]; omega
  by_cases hz : (i' : Int) - i ≤ 0
  · have : ((i' : Int) - i) * w ≤ 0 := Int.mul_nonpos_of_nonpos_of_nonneg hz (by omega)
    omega
  · have : 1 * w ≤ ((i' : Int) - i) * w := Int.mul_le_mul_of_nonneg_right (by omega) (by omega)
    omega

structure HeapW (n : Nat) (bl : List Int) (W : List Int) : Prop where
  len : W.length = 6 + 33 * n
  words : Words W
  ents : ∀ k : Nat, k < n → rdz W ((6 + k : Nat) : Int) = (enS (bl.getD k 0)).word
  refs : ∀ s ∈ spots n bl, (takeH (rdz W s.1)).refs ≤ s.2
  flds : ∀ i : Int, 6 + n ≤ i → (∀ s ∈ spots n bl, s.1 ≠ i) → rdz W i = 0 ∨ ∃ s ∈ spots n bl, rdz W i = s.1

theorem spots_in {n : Nat} {bl : List Int} {s : Int × Int} (h : s ∈ spots n bl) : 6 + n ≤ s.1 ∧ s.1 + s.2 < 6 + 33 * n := by
  obtain ⟨b, i, hb, hi, e1, e2, e3, e4, e5⟩ := mem_spots h
  omega

/-- A header is written. -/
theorem HeapW.head {n : Nat} {bl W : List Int} (h : HeapW n bl W) {s : Int × Int} (hs : s ∈ spots n bl) (v : Int) (hv : 0 ≤ v ∧ v < 18446744073709551616) (hr : (takeH v).refs ≤ s.2) : HeapW n bl (putz W s.1 v) := by
  have hin := spots_in hs
  refine ⟨by rw [putz_length]; exact h.len, h.words.put _ _ hv, fun k hk => ?_, fun s' hs' => ?_, fun i hi hn => ?_⟩
  · rw [rdz_putz, if_neg (by omega)]; exact h.ents k hk
  · rw [rdz_putz]
    split
    · rename_i he
      have := (spots_apart hs hs' (d := 0) (by obtain ⟨_, _, _, _, _, _, h3, _⟩ := mem_spots hs; omega) (by omega)).2
      omega
    · exact h.refs s' hs'
  · rw [rdz_putz, if_neg (fun e => hn s hs e.1)]; exact h.flds i hi hn
/-- A field is written. -/
theorem HeapW.field {n : Nat} {bl W : List Int} (h : HeapW n bl W) {s : Int × Int} (hs : s ∈ spots n bl) (d : Int) (hd : 1 ≤ d ∧ d ≤ s.2) (v : Int) (hv : v = 0 ∨ ∃ s' ∈ spots n bl, v = s'.1) (hn : n ≤ 6) : HeapW n bl (putz W (s.1 + d) v) := by
  have hin := spots_in hs
  have hvb : 0 ≤ v ∧ v < 18446744073709551616 := by
    rcases hv with rfl | ⟨s', hs', rfl⟩
    · omega
    · have := spots_in hs'; obtain ⟨_, _, _, _, _, _, h3, _⟩ := mem_spots hs'; omega
  refine ⟨by rw [putz_length]; exact h.len, h.words.put _ _ hvb, fun k hk => ?_, fun s' hs' => ?_, fun i hi hn => ?_⟩
  · rw [rdz_putz, if_neg (by omega)]; exact h.ents k hk
  · rw [rdz_putz, if_neg (fun e => by have := (spots_apart hs hs' (by omega) e.1).1; omega)]; exact h.refs s' hs'
  · rw [rdz_putz]
    split
    · exact hv
    · exact h.flds i hi hn
/-- A word ahead of the table is written. -/
theorem HeapW.low {n : Nat} {bl W : List Int} (h : HeapW n bl W) (a v : Int) (ha : a < 6) (hv : 0 ≤ v ∧ v < 18446744073709551616) : HeapW n bl (putz W a v) := by
  refine ⟨by rw [putz_length]; exact h.len, h.words.put _ _ hv, fun k hk => ?_, fun s' hs' => ?_, fun i hi hn => ?_⟩
  · rw [rdz_putz, if_neg (by omega)]; exact h.ents k hk
  · rw [rdz_putz, if_neg (by have := spots_in hs'; omega)]; exact h.refs s' hs'
  · rw [rdz_putz, if_neg (by omega)]; exact h.flds i hi hn

theorem shade_refs (x c : Int) (hx : 0 ≤ x) (hc : 0 ≤ c ∧ c ≤ 255) : (takeH (shadeOf x c)).refs = (takeH x).refs := by
  unfold shadeOf
  split
  · rename_i ht
    have hk := ht
    unfold tellOf at hk
    split at hk
    · rename_i h
      rw [turnedOf_white ht]
      rw [takeH_word (turnedH_u8 x c true hx hc) (by unfold turnedH; rw [show takeH x = hdOf x from by simp [takeH, h.1]]; exact may_three (isHd_may h.1) h.2.1 c true h.2.2)]
      rfl
    · omega
  · rfl
theorem black_refs (x : Int) (hx : 0 ≤ x) : (takeH (blackOf x)).refs = (takeH x).refs := by
  unfold blackOf
  split
  · rename_i h
    rw [turnedOf_black h.1 h.2]
    have hu := hdOf_u8 x hx
    have ht : takeH x = hdOf x := by simp [takeH, h.1]
    have hm := may_three (isHd_may h.1) h.2 (hdOf x).colour false (Hd.may_bounds (isHd_may h.1)).2.1
    rw [takeH_word (h := { hdOf x with grey := false }) ⟨hu.1, hu.2.1, hu.2.2.1, hu.2.2.2.1, hu.2.2.2.2⟩ hm, ht]
  · rfl

theorem HeapW.shade {n : Nat} {bl W : List Int} (h : HeapW n bl W) {s : Int × Int} (hs : s ∈ spots n bl) (c : Int) (hc : 0 ≤ c ∧ c ≤ 255) : HeapW n bl (shadeW W s.1 c) :=
  h.head hs _ (shaded_bd _ c (h.words s.1) hc) (by rw [shade_refs _ c (h.words s.1).1 hc]; exact h.refs s hs)
theorem HeapW.looks {n : Nat} {bl W : List Int} (h : HeapW n bl W) {s : Int × Int} (hs : s ∈ spots n bl) (c : Int) (hc : 0 ≤ c ∧ c ≤ 255) (m : Nat) (hm : (m : Int) ≤ s.2) : HeapW n bl (looksW c s.1 m W) := by
  induction m with
  | zero => exact h
  | succ m ih =>
    rw [looksW_succ]
    have ih := ih (by omega)
    unfold lookW
    split
    · exact ih
    · rename_i hz
      have hin := spots_in hs
      rcases ih.flds (s.1 + 1 + m) (by omega) (fun s' hs' e => by have := (spots_apart hs hs' (d := 1 + m) (by omega) (by omega)).1; omega) with h0 | ⟨s', hs', he⟩
      · exact absurd h0 hz
      · rw [he]; exact ih.shade hs' c hc
theorem HeapW.into {n : Nat} {bl W : List Int} (h : HeapW n bl W) {s : Int × Int} (hs : s ∈ spots n bl) (c : Int) (hc : 0 ≤ c ∧ c ≤ 255) : HeapW n bl (intoW c W s.1) := by
  have hr := h.refs s hs
  have hb := refs_bd (rdz W s.1) (h.words s.1).1
  have h2 := h.looks hs c hc (takeH (rdz W s.1)).refs.toNat (by omega)
  unfold intoW
  exact h2.head hs _ (black_bd _ (h2.words s.1)) (by rw [black_refs _ (h2.words s.1).1]; exact h2.refs s hs)
end Go.Proofs.Ytnadiddaeolanaa
