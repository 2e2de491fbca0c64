/- The plain law of GivePlays: the words behind an act say what the document's state says. -/
import Derived.Test.YtnadiddaeolanaaRef14c
namespace Go.Proofs.Ytnadiddaeolanaa
open Go.RowKit
set_option linter.unusedVariables false
set_option linter.unusedSimpArgs false

/-- The words of an arena of n blocks (one thread, one global root) say the map m and the entries E. -/
structure St (W : List Int) (n m : Nat) (E : List Int) : Prop where
  len : W.length = 5 + 33 * n
  words : Words W
  map : rdz W 0 = m
  elen : E.length = n
  ents : ∀ k : Nat, k < n → rdz W ((5 + k : Nat) : Int) = E.getD k 0
def lay1 (n : Nat) : Lay := ⟨1, 1, n⟩
theorem St.lt {W : List Int} {n m : Nat} {E : List Int} (h : St W n m E) : m < 18446744073709551616 := by have := h.words 0; rw [h.map] at this; omega
theorem rdz_replicate (L : Nat) (a : Int) : rdz (List.replicate L 0) a = 0 := by
  unfold rdz
  split
  · rename_i h
    obtain ⟨q, rfl, hq⟩ := inr_true h
    rw [List.length_replicate] at hq
    simp [hq]
  · rfl
theorem St.begin (n : Nat) (hn : n ≤ 64) : St (putz (List.replicate (5 + 33 * n) 0) 0 (allN n : Nat)) n (allN n) (List.replicate n 0) where
  len := by rw [putz_length, List.length_replicate]
  words := Words.put (fun j => by rw [rdz_replicate]; decide) _ _ (by have := allN_lt hn; omega)
  map := by
    have := rdz_putz2 (List.replicate (5 + 33 * n) 0) 0 (allN n : Nat) 0 (by rw [List.length_replicate]; omega)
    simpa using this
  elen := by simp
  ents := fun k hk => by
    rw [rdz_putz2 _ _ _ _ (by rw [List.length_replicate]; omega), if_neg (by omega), rdz_replicate]
    simp [hk]
/-- Another map, the same entries. -/
theorem St.setMap {W : List Int} {n m : Nat} {E : List Int} (h : St W n m E) (m' : Nat) (hm : m' < 18446744073709551616) : St (putz W 0 (m' : Nat)) n m' E where
  len := by rw [putz_length, h.len]
  words := h.words.put _ _ (by omega)
  map := by
    have := rdz_putz2 W 0 (m' : Nat) 0 (by rw [h.len]; omega)
    simpa using this
  elen := h.elen
  ents := fun k hk => by rw [rdz_putz2 _ _ _ _ (by rw [h.len]; omega), if_neg (by omega)]; exact h.ents k hk
theorem findN_bad {m : Nat} {r : Int} (h : ¬(1 ≤ r ∧ r ≤ 3)) : findN m r = none := findN_none fun a _ => by
  have : goodRun a r = false := by simp [goodRun]; omega
  simp [isRun, this]
theorem St.claim {W : List Int} {n m : Nat} {E : List Int} (h : St W n m E) (r : Int) : St (if 1 ≤ r ∧ r ≤ 3 then putz W 0 (claimV m r : Nat) else W) n (claimV m r) E := by
  split
  · exact h.setMap _ (claimV_lt h.lt r)
  · rename_i hr
    have : claimV m r = m := by unfold claimV; rw [findN_bad hr]
    rw [this]; exact h
theorem lay1_base (n : Nat) : (lay1 n).base = 5 := rfl
theorem okBack_okE (n : Nat) (k r : Int) : okBack (lay1 n) k r = okE n k r := rfl
theorem St.back {W : List Int} {n m : Nat} {E : List Int} (h : St W n m E) (k r : Int) : St (backW W (lay1 n) k r) n (backM n m k r) (backE n E k r) := by
  unfold backW backM backE
  rw [okBack_okE]
  cases ho : okE n k r with
  | false => exact h
  | true =>
    have hk : 1 ≤ r ∧ r ≤ 3 ∧ 0 ≤ k ∧ k ≤ n - r := by simpa [okE] using ho
    simp only [if_true]
    rw [h.map, Int.toNat_natCast]
    refine St.setMap (m := m) ⟨by rw [zeroW_len, h.len], zeroW_words h.words _ _ _, ?_, by rw [zeroE_len, h.elen], fun i hi => ?_⟩ _ (backV_lt h.lt k r)
    · have := zeroW_rdz W (lay1 n) k r 0 (by rw [h.len]; omega)
      rw [show ((0 : Nat) : Int) = 0 from rfl] at this
      rw [this, if_neg (by rw [lay1_base]; omega)]; exact h.map
    · rw [zeroW_rdz _ _ _ _ _ (by rw [h.len]; omega), lay1_base, h.ents i hi]
      rw [List.getD_eq_getElem?_getD, List.getD_eq_getElem?_getD, List.getElem?_eq_getElem (by rw [h.elen]; exact hi), List.getElem?_eq_getElem (by rw [zeroE_len, h.elen]; exact hi)]
      simp only [zeroE, List.getElem_mapIdx, Option.getD_some]
      by_cases hc : k.toNat ≤ i ∧ i < k.toNat + r.toNat
      · rw [if_pos (by omega), if_pos hc]
      · rw [if_neg (by omega), if_neg hc]
theorem entry_at {n : Nat} {k : Nat} (hk : k < n) : (lay1 n).entry k = ((5 + k : Nat) : Int) := by
  rw [Lay.entry_in (by simp only [lay1]; omega), lay1_base]; omega
theorem St.set {W : List Int} {n m : Nat} {E : List Int} (h : St W n m E) (k : Int) (e : En) (hu : e.u8) : St (setW W (lay1 n) k e) n m (setE n E k e) := by
  unfold setW setE
  by_cases hk : 0 ≤ k ∧ k < n
  · obtain ⟨q, rfl⟩ : ∃ q : Nat, k = q := ⟨k.toNat, by omega⟩
    have hq : q < n := by omega
    rw [entry_at hq]
    by_cases hm : e.may = true
    · rw [if_pos ⟨hm, by omega⟩, if_pos ⟨hm, hk⟩]
      refine ⟨by rw [putz_length, h.len], h.words.put _ _ (En.word_bounds hu hm), ?_, by rw [List.length_set, h.elen], fun i hi => ?_⟩
      · have := rdz_putz2 W ((5 + q : Nat) : Int) e.word 0 (by rw [h.len]; omega)
        rw [show ((0 : Nat) : Int) = 0 from rfl, if_neg (by omega)] at this
        rw [this]; exact h.map
      · rw [rdz_putz2 _ _ _ _ (by rw [h.len]; omega), h.ents i hi, List.getD_eq_getElem?_getD, List.getD_eq_getElem?_getD, List.getElem?_set, Int.toNat_natCast]
        by_cases e : q = i
        · subst e
          rw [if_pos rfl, if_pos rfl, if_pos (by rw [h.elen]; exact hi)]; rfl
        · rw [if_neg (by omega), if_neg e]
    · rw [if_neg (fun c => hm c.1), if_neg (fun c => hm c.1)]; exact h
  · have hk' : ¬(0 ≤ k ∧ k < ((lay1 n).b : Int)) := hk
    rw [Lay.entry_out hk', if_neg (by omega), if_neg (fun c => hk c.2)]; exact h
theorem St.entry {W : List Int} {n m : Nat} {E : List Int} (h : St W n m E) {k : Nat} (hk : k < n) : entryOf W (lay1 n) k = takeE (E.getD k 0) := by
  unfold entryOf
  rw [entry_at hk, if_neg (by omega), h.ents k hk]
theorem St.past {W : List Int} {n m : Nat} {E : List Int} (h : St W n m E) : entryOf W (lay1 n) n = En.zero := by
  unfold entryOf
  rw [Lay.entry_out (by simp only [lay1]; omega), if_pos (by omega)]
theorem St.waiting {W : List Int} {n m : Nat} {E : List Int} (h : St W n m E) (o : Int) (k : Nat) (hk : k ≤ n) : St (waitW (lay1 n) (fun x => x == o) W k) n (waitE n o (m, E) k).1 (waitE n o (m, E) k).2 := by
  induction k with
  | zero => exact h
  | succ k ih =>
    have hi := ih (by omega)
    rw [waitW_succ, waitE_succ]
    generalize waitW (lay1 n) (fun x => x == o) W k = V at *
    generalize waitE n o (m, E) k = s at *
    unfold waitStep waitES
    dsimp only
    rw [hi.entry (by omega)]
    by_cases hc : ((takeE (s.2.getD k 0)).k = 4 ∨ (takeE (s.2.getD k 0)).k = 5) ∧ (takeE (s.2.getD k 0)).o = o
    · rw [if_pos ⟨hc.1, by simpa using hc.2⟩, if_pos hc]
      exact hi.back _ _
    · rw [if_neg (fun c => hc ⟨c.1, by simpa using c.2⟩), if_neg hc]
      exact hi
end Go.Proofs.Ytnadiddaeolanaa
