/- A heap's words are such, and a walk of them meets the cells in order. -/
import Derived.Test.YtnadiddaeolanaaInv21
namespace Go.Proofs.Ytnadiddaeolanaa
open Go.RowKit
set_option linter.unusedVariables false
set_option linter.unusedSimpArgs false

theorem enS_take (c : Int) (hc : 0 ≤ c) : takeE (enS c).word = enS c ∧ 0 ≤ (enS c).word ∧ (enS c).word < 256 := by
  by_cases h4 : c = 4
  · subst h4; exact ⟨by kernel_rfl, by decide, by decide⟩
  by_cases h3 : 3 < c
  · have : enS c = En.zero := by unfold enS; rw [if_neg h4, if_pos h3]
    rw [this]; exact ⟨by kernel_rfl, by decide, by decide⟩
  · have : c = 0 ∨ c = 1 ∨ c = 2 ∨ c = 3 := by omega
    rcases this with rfl | rfl | rfl | rfl <;> exact ⟨by kernel_rfl, by decide, by decide⟩
theorem startsC_none (c : Int) (h : 3 < c ∨ c < 0) : startsC c = [] := by
  unfold startsC cellsC
  rw [if_neg (by omega), if_neg (by omega), if_neg (by omega), if_neg (by omega)]
  rfl
theorem heads_enS (l : Lay) (b : Nat) (c : Int) (hc : 0 ≤ c) : headsL (l.start b) (enS c) = cellsAt l b c := by
  by_cases h4 : c = 4
  · subst h4; unfold cellsAt; rw [startsC_none 4 (by omega)]; rfl
  by_cases h3 : 3 < c
  · have : enS c = En.zero := by unfold enS; rw [if_neg h4, if_pos h3]
    rw [this]; unfold cellsAt; rw [startsC_none c (by omega)]; rfl
  · have : enS c = ⟨1, c, 0, 0⟩ := by unfold enS; rw [if_neg h4, if_neg h3]
    rw [this, headsL_one _ _ rfl]
    unfold cellsAt startsC
    rw [List.map_map]
    rfl
theorem headsOf_all (l : Lay) (bl : List Int) (hb : ∀ k, 0 ≤ bl.getD k 0) (n : Nat) : (headsOf l (fun k => enS (bl.getD k 0)) n).map (·.1) = allS l bl n := by
  induction n with
  | zero => rfl
  | succ n ih =>
    rw [headsOf_succ, allS_succ, List.map_append, ih, List.map_map, heads_enS l n _ (hb n)]
    congr 1
    exact List.map_id' _
theorem spotsS_all (n lo k : Nat) (bl : List Int) : (spotsS ⟨1, 2, n⟩ bl lo k).map (·.1) = (List.range' lo k).flatMap fun b : Nat => cellsAt ⟨1, 2, n⟩ b (bl.getD b 0) := by
  unfold spotsS
  rw [List.map_flatMap]
  congr 1
  funext b
  unfold spotsAt
  rw [List.map_map]
  exact List.map_id' _
theorem spots_all (n : Nat) (bl : List Int) : (spots n bl).map (·.1) = allS ⟨1, 2, n⟩ bl n := by
  unfold allS
  rw [List.range_eq_range']
  exact spotsS_all n 0 n bl

theorem stays_heap (n : Nat) (hn : n ≤ 6) (bl : List Int) (hb : ∀ k, 0 ≤ bl.getD k 0) (c : Int) (hc : 0 ≤ c ∧ c ≤ 255) : Stays ⟨1, 2, n⟩ (fun k => enS (bl.getD k 0)) c (HeapW n bl) where
  words := fun W h => ⟨h.words, fun k hk => by
    unfold entryOf
    have he : (Lay.mk 1 2 n).entry k = ((6 + k : Nat) : Int) := by unfold Lay.entry spot; dsimp only at hk ⊢; rw [if_pos (by omega)]; omega
    rw [he, if_neg (by omega), h.ents k hk, (enS_take _ (hb k)).1]⟩
  next := fun W k a h hk ha => by
    rw [heads_enS _ _ _ (hb k)] at ha
    have hm : a ∈ (spots n bl).map (·.1) := by
      rw [spots_all]
      exact List.mem_flatMap.2 ⟨k, List.mem_range.2 hk, ha⟩
    obtain ⟨s, hs, rfl⟩ := List.mem_map.1 hm
    exact h.into hs c hc

theorem entW_rdz (n : Nat) (bl : List Int) (k : Nat) (hk : k ≤ n) (j : Int) : rdz (entW bl ⟨1, 2, n⟩ k) j = if 6 ≤ j ∧ j < 6 + k then (enS (bl.getD (j - 6).toNat 0)).word else 0 := by
  induction k with
  | zero =>
    rw [if_neg (by omega)]
    unfold entW rdz
    split
    · simp only [List.range_zero, List.foldl_nil, List.getD_eq_getElem?_getD, List.getElem?_replicate]
      split <;> rfl
    · rfl
  | succ k ih =>
    have he : (Lay.mk 1 2 n).entry k = 6 + k := by unfold Lay.entry spot; dsimp only; rw [if_pos (by omega)]; omega
    rw [entW_succ, rdz_putz, he, ih (by omega)]
    have hl := entW_len bl ⟨1, 2, n⟩ k
    dsimp only at hl
    by_cases hj : 6 + (k : Int) = j
    · rw [if_pos ⟨hj, by unfold inr; simp; omega⟩, if_pos (by omega), show (j - 6).toNat = k from by omega]
    · rw [if_neg (fun e => hj e.1)]
      by_cases h2 : 6 ≤ j ∧ j < 6 + k
      · rw [if_pos h2, if_pos (by omega)]
      · rw [if_neg h2, if_neg (by omega)]
theorem takeH_zero : (takeH 0).refs = 0 := by decide
theorem heapW_start (n : Nat) (bl : List Int) (hb : ∀ k, 0 ≤ bl.getD k 0) : HeapW n bl (entW bl ⟨1, 2, n⟩ n) where
  len := entW_len bl ⟨1, 2, n⟩ n
  words := fun j => by
    rw [entW_rdz n bl n (Nat.le_refl n) j]
    split
    · have := enS_take _ (hb (j - 6).toNat); omega
    · omega
  ents := fun k hk => by
    rw [entW_rdz n bl n (Nat.le_refl n), if_pos (by omega), show ((((6 + k : Nat) : Int)) - 6).toNat = k from by omega]
  refs := fun s hs => by
    have := spots_in hs
    obtain ⟨_, _, _, _, _, _, h3, _⟩ := mem_spots hs
    rw [entW_rdz n bl n (Nat.le_refl n), if_neg (by omega), takeH_zero]; omega
  flds := fun i hi _ => .inl (by rw [entW_rdz n bl n (Nat.le_refl n), if_neg (by omega)])

theorem refS_ok (n : Nat) (bl : List Int) (x : Int) : refS (allS ⟨1, 2, n⟩ bl n) x = 0 ∨ ∃ s ∈ spots n bl, refS (allS ⟨1, 2, n⟩ bl n) x = s.1 := by
  unfold refS
  split
  · exact .inl rfl
  · by_cases h : (x - 1).toNat < (allS ⟨1, 2, n⟩ bl n).length
    · right
      have hm : (allS ⟨1, 2, n⟩ bl n).getD (x - 1).toNat 0 ∈ (spots n bl).map (·.1) := by
        rw [spots_all, List.getD_eq_getElem?_getD, List.getElem?_eq_getElem h]; exact List.getElem_mem h
      obtain ⟨s, hs, he⟩ := List.mem_map.1 hm
      exact ⟨s, hs, he.symm⟩
    · left
      rw [List.getD_eq_getElem?_getD, List.getElem?_eq_none (by omega)]; rfl
theorem heapW_fields {n : Nat} (hn : n ≤ 6) {bl W : List Int} (h : HeapW n bl W) {s : Int × Int} (hs : s ∈ spots n bl) (f : List Int) (m : Nat) (hm : (m : Int) ≤ s.2) : HeapW n bl (fldW (allS ⟨1, 2, n⟩ bl n) f s.1 m W) := by
  induction m with
  | zero => exact h
  | succ m ih =>
    rw [fldW_succ]
    have := (ih (by omega)).field hs (1 + m) (by omega) _ (refS_ok n bl (f.getD m 0)) hn
    rw [show s.1 + (1 + (m : Int)) = s.1 + 1 + m from by omega] at this
    exact this
theorem heapW_put {n : Nat} (hn : n ≤ 6) {bl : List Int} : ∀ (ss : List (Int × Int)) (cs : List Cl) (W W' : List Int), (∀ s ∈ ss, s ∈ spots n bl) → (∀ x ∈ cs, x.h.u8) → HeapW n bl W → putS (allS ⟨1, 2, n⟩ bl n) ss cs W = some W' → HeapW n bl W'
  | [], cs, W, W', _, _, h, e => by cases e; exact h
  | s :: ss, [], W, W', _, _, h, e => by cases e; exact h
  | s :: ss, x :: xs, W, W', hs, hx, h, e => by
    unfold putS at e
    split at e
    · rename_i hg
      have hu := hx x (by simp)
      have h1 := h.head (hs s (by simp)) x.h.word (word_bd hu hg.1) (by rw [takeH_word hu hg.1]; have := (Hd.may_bounds hg.1).2.2.2.2; omega)
      have hsz := hu.2.2.2.2.1
      have h2 := heapW_fields hn h1 (hs s (by simp)) x.f (min x.f.length x.h.size.toNat) (by omega)
      exact heapW_put hn ss xs _ W' (fun s' h' => hs s' (by simp [h'])) (fun y hy => hx y (by simp [hy])) h2 e
    · cases e
theorem heapW_words (bl : List Int) (hb : ∀ k, 0 ≤ bl.getD k 0) (cs : List Cl) (hu : ∀ x ∈ cs, x.h.u8) (r0 r1 : Int) (W : List Int) (h : wordsS bl cs r0 r1 = some W) : HeapW bl.length bl W ∧ 1 ≤ bl.length ∧ bl.length ≤ 6 := by
  unfold wordsS at h
  split at h
  · cases h
  · rename_i hg
    refine ⟨?_, by omega, by omega⟩
    split at h
    · cases h
    · rename_i V hV
      cases h
      have h1 := heapW_put (by omega) _ _ _ _ (fun s hs => hs) hu (heapW_start bl.length bl hb) hV
      have hg0 : (Lay.mk 1 2 bl.length).global 0 = 4 := by unfold Lay.global spot; dsimp only; rw [if_pos (by omega)]; omega
      have hg1 : (Lay.mk 1 2 bl.length).global 1 = 5 := by unfold Lay.global spot; dsimp only; rw [if_pos (by omega)]; omega
      have hrb := fun x => (show 0 ≤ refS (allS ⟨1, 2, bl.length⟩ bl bl.length) x ∧ refS (allS ⟨1, 2, bl.length⟩ bl bl.length) x < 18446744073709551616 by
        rcases refS_ok bl.length bl x with h | ⟨s, hs, h⟩
        · omega
        · have := spots_in hs; obtain ⟨_, _, _, _, _, _, h3, _⟩ := mem_spots hs; omega)
      rw [hg0, hg1]
      exact (h1.low 4 _ (by omega) (hrb r0)).low 5 _ (by omega) (hrb r1)
end Go.Proofs.Ytnadiddaeolanaa
