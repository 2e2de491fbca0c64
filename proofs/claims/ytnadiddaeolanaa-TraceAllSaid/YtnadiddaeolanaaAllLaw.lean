/- What passes leave of a heap's words: a plain law. -/
import Derived.Test.YtnadiddaeolanaaWakes21
namespace Go.Proofs.Ytnadiddaeolanaa
open Go.RowKit
set_option linter.unusedVariables false
set_option linter.unusedSimpArgs false

theorem tell_word {h : Hd} (hu : h.u8) (hm : h.may = true) (c : Int) : tellOf h.word c = if h.kind = 3 ∧ c ≤ 1 then (if h.colour = c then (if h.grey then 2 else 3) else 1) else 0 := by
  unfold tellOf
  rw [hdOf_word hu hm, isHd_word hu hm]
  simp
theorem tell_shade (x c : Int) (hx : 0 ≤ x) (hc : 0 ≤ c ∧ c ≤ 1) : tellOf (shadeOf x c) c = if tellOf x c = 1 then 2 else tellOf x c := by
  unfold shadeOf
  by_cases ht : tellOf x c = 1
  · rw [if_pos ht, if_pos ht]
    have hk := ht
    unfold tellOf at hk
    split at hk
    · rename_i h
      have hth : takeH x = hdOf x := by simp [takeH, h.1]
      rw [turnedOf_white ht, tell_word (turnedH_u8 x c true hx (by omega)) (by unfold turnedH; rw [hth]; exact may_three (isHd_may h.1) h.2.1 c true h.2.2)]
      rw [if_pos ⟨by unfold turnedH; rw [hth]; exact h.2.1, h.2.2⟩]
      rw [if_pos (show (turnedH x c true).colour = c from rfl)]
      rfl
    · omega
  · rw [if_neg ht, if_neg ht]
theorem tell_black (x c : Int) (hx : 0 ≤ x) : tellOf (blackOf x) c = if tellOf x c = 2 then 3 else tellOf x c := by
  unfold blackOf
  by_cases hk : isHd x = true ∧ (hdOf x).kind = 3
  · rw [if_pos hk, turnedOf_black hk.1 hk.2]
    have hu := hdOf_u8 x hx
    have hm := may_three (isHd_may hk.1) hk.2 (hdOf x).colour false (Hd.may_bounds (isHd_may hk.1)).2.1
    rw [tell_word (h := { hdOf x with grey := false }) ⟨hu.1, hu.2.1, hu.2.2.1, hu.2.2.2.1, hu.2.2.2.2⟩ hm]
    have e : tellOf x c = if c ≤ 1 then (if (hdOf x).colour = c then (if (hdOf x).grey then 2 else 3) else 1) else 0 := by
      unfold tellOf
      by_cases hc : c ≤ 1
      · rw [if_pos ⟨hk.1, hk.2, hc⟩, if_pos hc]
      · rw [if_neg (fun z => hc z.2.2), if_neg hc]
    rw [e]
    dsimp only
    by_cases hc : c ≤ 1
    · rw [if_pos ⟨hk.2, hc⟩, if_pos hc]
      by_cases h1 : (hdOf x).colour = c
      · rw [if_pos h1, if_pos h1]
        cases (hdOf x).grey <;> simp
      · rw [if_neg h1, if_neg h1]; simp
    · rw [if_neg (fun z => hc z.2), if_neg hc]; simp
  · rw [if_neg hk]
    have h0 : tellOf x c = 0 := by unfold tellOf; rw [if_neg (fun z => hk ⟨z.1, z.2.1⟩)]
    rw [h0]; simp

/-- A word that a head leads to, and may be reached by. -/
def LeadsTo (W : List Int) (c : Int) (a v : Int) : Prop := ∃ k : Nat, 1 ≤ k ∧ (k : Int) ≤ (takeH (rdz W a)).refs ∧ a + k < W.length ∧ rdz W (a + k) = v ∧ v ≠ 0 ∧ v < W.length ∧ tellOf (rdz W v) c = 1
/-- What is grey, or reached from there by white ones. -/
inductive Src (W : List Int) (c : Int) (hs : List Int) : Int → Prop
  | grey (a : Int) : a ∈ hs → tellOf (rdz W a) c = 2 → Src W c hs a
  | led (a v : Int) : Src W c hs a → LeadsTo W c a v → Src W c hs v

section
variable {n : Nat} {bl W : List Int} {c : Int}

theorem src_head (hW : HeapW n bl W) {a : Int} (h : Src W c (allS ⟨1, 2, n⟩ bl n) a) : a ∈ allS ⟨1, 2, n⟩ bl n := by
  induction h with
  | grey a ha _ => exact ha
  | led a v _ hl ih =>
    obtain ⟨s, hs, rfl⟩ := all_spots a ih
    obtain ⟨k, hk1, hk2, _, hv, hv0, _, _⟩ := hl
    have hr := hW.refs s hs
    have hin := spots_in hs
    rcases hW.flds (s.1 + k) (by omega) (fun s' hs' e => by have := (spots_apart hs hs' (d := k) (by omega) (by omega)).1; omega) with h0 | ⟨s', hs', he⟩
    · exact absurd (hv.symm.trans h0) hv0
    · rw [← hv, he, ← spots_all]
      exact List.mem_map.2 ⟨s', hs', rfl⟩

/-- What stands while passes go on. -/
structure PInv (n : Nat) (bl W : List Int) (c : Int) (V : List Int) : Prop where
  heap : HeapW n bl V
  same : ∀ i, ¬ Src W c (allS ⟨1, 2, n⟩ bl n) i → rdz V i = rdz W i
  grown : ∀ i, Src W c (allS ⟨1, 2, n⟩ bl n) i → rdz V i = rdz W i ∨ tellOf (rdz V i) c = 2 ∨ tellOf (rdz V i) c = 3
  refs : ∀ i, (takeH (rdz V i)).refs = (takeH (rdz W i)).refs
  black : ∀ i, Src W c (allS ⟨1, 2, n⟩ bl n) i → tellOf (rdz V i) c = 3 → ∀ v, LeadsTo W c i v → tellOf (rdz V v) c ≠ 1
theorem PInv.start (hW : HeapW n bl W) : PInv n bl W c W := ⟨hW, fun _ _ => rfl, fun _ _ => .inl rfl, fun _ => rfl, fun i hi ht => by
  cases hi with
  | grey _ _ h => omega
  | led a _ _ hl => obtain ⟨_, _, _, _, _, _, _, h⟩ := hl; omega⟩

/-- A word, shaded or blackened. -/
theorem PInv.turn {V : List Int} (h : PInv n bl W c V) (hc : 0 ≤ c ∧ c ≤ 1) {s : Int × Int} (hs : s ∈ spots n bl) (y : Int) (hH : HeapW n bl (putz V s.1 y)) (hS : Src W c (allS ⟨1, 2, n⟩ bl n) s.1 ∨ y = rdz V s.1)
    (ht : (tellOf (rdz V s.1) c = 1 ∧ tellOf y c = 2) ∨ (tellOf (rdz V s.1) c = 2 ∧ tellOf y c = 3 ∧ ∀ v, LeadsTo W c s.1 v → tellOf (rdz V v) c ≠ 1) ∨ y = rdz V s.1) (hr : (takeH y).refs = (takeH (rdz V s.1)).refs) : PInv n bl W c (putz V s.1 y) := by
  have hin := spots_in hs
  obtain ⟨_, _, _, _, _, _, h3, _⟩ := mem_spots hs
  have hi : inr V.length s.1 = true := by have := h.heap.len; unfold inr; simp; omega
  have hg : ∀ i, rdz (putz V s.1 y) i = if s.1 = i then y else rdz V i := fun i => by
    rw [rdz_putz]
    by_cases e : s.1 = i
    · rw [if_pos ⟨e, by rw [← e]; exact hi⟩, if_pos e]
    · rw [if_neg (fun z => e z.1), if_neg e]
  have hnw : ∀ v, tellOf (rdz V v) c ≠ 1 → tellOf (rdz (putz V s.1 y) v) c ≠ 1 := fun v hv => by
    rw [hg]
    split
    · rename_i e
      subst e
      rcases ht with ⟨h1, _⟩ | ⟨_, h2, _⟩ | h2
      · exact absurd h1 hv
      · omega
      · rw [h2]; exact hv
    · exact hv
  refine ⟨hH, fun i hn => ?_, fun i hS' => ?_, fun i => ?_, fun i hS' hb v hl => ?_⟩
  · rw [hg]
    split
    · rename_i e
      subst e
      rcases hS with h1 | h1
      · exact absurd h1 hn
      · rw [h1]; exact h.same _ hn
    · exact h.same i hn
  · rw [hg]
    split
    · rename_i e
      subst e
      rcases ht with ⟨_, h2⟩ | ⟨_, h2, _⟩ | h2
      · exact .inr (.inl h2)
      · exact .inr (.inr h2)
      · rw [h2]; exact h.grown _ hS'
    · exact h.grown i hS'
  · rw [hg]
    split
    · rename_i e
      subst e
      rw [hr]; exact h.refs _
    · exact h.refs i
  · refine hnw v ?_
    rw [hg] at hb
    split at hb
    · rename_i e
      subst e
      rcases ht with ⟨_, h2⟩ | ⟨_, _, h2⟩ | h2
      · omega
      · exact h2 v hl
      · rw [h2] at hb; exact h.black _ hS' hb v hl
    · exact h.black i hS' hb v hl

/-- The places that an object leads to are no heads. -/
theorem field_same {V : List Int} (hW : HeapW n bl W) (h : PInv n bl W c V) {s : Int × Int} (hs : s ∈ spots n bl) (k : Nat) (hk : 1 ≤ k ∧ (k : Int) ≤ s.2) : rdz V (s.1 + k) = rdz W (s.1 + k) :=
  h.same _ fun hS => by
    obtain ⟨s', hs', he⟩ := all_spots _ (src_head hW hS)
    have := (spots_apart hs hs' (d := k) (by omega) he).1
    omega

/-- A grey head of a heap on the way is one that is reached. -/
theorem grey_src {V : List Int} (h : PInv n bl W c V) {a : Int} (ha : a ∈ allS ⟨1, 2, n⟩ bl n) (ht : tellOf (rdz V a) c = 2) : Src W c (allS ⟨1, 2, n⟩ bl n) a :=
  Classical.byContradiction fun hn => hn (.grey a ha (by rw [← h.same a hn]; exact ht))

theorem PInv.looks {V : List Int} (hW : HeapW n bl W) (h : PInv n bl W c V) (hc : 0 ≤ c ∧ c ≤ 1) {s : Int × Int} (hs : s ∈ spots n bl) (hS : Src W c (allS ⟨1, 2, n⟩ bl n) s.1) (ht : tellOf (rdz V s.1) c = 2) (m : Nat) (hm : (m : Int) ≤ (takeH (rdz V s.1)).refs) :
    PInv n bl W c (looksW c s.1 m V) ∧ tellOf (rdz (looksW c s.1 m V) s.1) c = 2 ∧ ∀ k : Nat, 1 ≤ k → k ≤ m → rdz W (s.1 + k) ≠ 0 → tellOf (rdz (looksW c s.1 m V) (rdz W (s.1 + k))) c ≠ 1 := by
  induction m with
  | zero => exact ⟨h, ht, fun k h1 h2 => by omega⟩
  | succ m ih =>
    obtain ⟨i1, i2, i3⟩ := ih (by omega)
    have hr0 := h.heap.refs s hs
    have hfs := field_same hW i1 hs (m + 1) (by omega)
    rw [looksW_succ]
    unfold lookW
    rw [show s.1 + 1 + (m : Int) = s.1 + ((m + 1 : Nat) : Int) from by omega, hfs]
    by_cases hz : rdz W (s.1 + ((m + 1 : Nat) : Int)) = 0
    · rw [if_pos hz]
      refine ⟨i1, i2, fun k h1 h2 h0 => ?_⟩
      by_cases he : k = m + 1
      · subst he; exact absurd hz h0
      · exact i3 k h1 (by omega) h0
    · rw [if_neg hz]
      rcases i1.heap.flds (s.1 + ((m + 1 : Nat) : Int)) (by have := spots_in hs; omega) (fun s' hs' e => by have := (spots_apart hs hs' (d := ((m + 1 : Nat) : Int)) (by omega) e.symm).1; omega) with h0 | ⟨s', hs', he⟩
      · exact absurd (hfs.symm.trans h0) hz
      rw [hfs] at he
      have hx := i1.heap.words s'.1
      have hsh := tell_shade (rdz (looksW c s.1 m V) s'.1) c hx.1 hc
      have hin' := spots_in hs'
      have hS' : tellOf (rdz (looksW c s.1 m V) s'.1) c = 1 → Src W c (allS ⟨1, 2, n⟩ bl n) s'.1 := fun ht1 => by
        refine Classical.byContradiction fun hn => hn ?_
        have hsame := i1.same _ hn
        rw [hsame] at ht1
        have hrf := h.refs s.1
        refine .led s.1 s'.1 hS ⟨m + 1, by omega, by omega, by have := hW.len; have := spots_in hs; omega, he, ?_, ?_, ht1⟩
        · rw [← he]; exact hz
        · have := hW.len; obtain ⟨_, _, _, _, _, _, h3, _⟩ := mem_spots hs'; omega
      rw [he]
      have hput : shadeW (looksW c s.1 m V) s'.1 c = putz (looksW c s.1 m V) s'.1 (shadeOf (rdz (looksW c s.1 m V) s'.1) c) := rfl
      have hP : PInv n bl W c (shadeW (looksW c s.1 m V) s'.1 c) := by
        rw [hput]
        refine i1.turn hc hs' _ (by rw [← hput]; exact i1.heap.shade hs' c (by omega)) ?_ ?_ (shade_refs _ c hx.1 (by omega))
        · by_cases h1 : tellOf (rdz (looksW c s.1 m V) s'.1) c = 1
          · exact .inl (hS' h1)
          · exact .inr (by unfold shadeOf; rw [if_neg h1])
        · by_cases h1 : tellOf (rdz (looksW c s.1 m V) s'.1) c = 1
          · exact .inl ⟨h1, by rw [hsh, if_pos h1]⟩
          · exact .inr (.inr (by unfold shadeOf; rw [if_neg h1]))
      have hg : ∀ i, tellOf (rdz (shadeW (looksW c s.1 m V) s'.1 c) i) c = if s'.1 = i then (if tellOf (rdz (looksW c s.1 m V) i) c = 1 then 2 else tellOf (rdz (looksW c s.1 m V) i) c) else tellOf (rdz (looksW c s.1 m V) i) c := fun i => by
        rw [hput, rdz_putz]
        by_cases e : s'.1 = i
        · subst e
          rw [if_pos ⟨rfl, by have := i1.heap.len; obtain ⟨_, _, _, _, _, _, h3, _⟩ := mem_spots hs'; unfold inr; simp; omega⟩, if_pos rfl, hsh]
        · rw [if_neg (fun z => e z.1), if_neg e]
      refine ⟨hP, ?_, fun k h1 h2 h0 => ?_⟩
      · rw [hg, i2]; split <;> simp
      · rw [hg]
        by_cases hk : k = m + 1
        · subst hk
          rw [he, if_pos rfl]
          by_cases e : tellOf (rdz (looksW c s.1 m V) s'.1) c = 1
          · rw [if_pos e]; omega
          · rw [if_neg e]; exact e
        · have h5 := i3 k h1 (by omega) h0
          by_cases e : s'.1 = rdz W (s.1 + k)
          · rw [if_pos e, if_neg h5]; exact h5
          · rw [if_neg e]; exact h5
theorem PInv.into {V : List Int} (hW : HeapW n bl W) (h : PInv n bl W c V) (hc : 0 ≤ c ∧ c ≤ 1) {s : Int × Int} (hs : s ∈ spots n bl) (ht : tellOf (rdz V s.1) c = 2) :
    PInv n bl W c (intoW c V s.1) ∧ tellOf (rdz (intoW c V s.1) s.1) c = 3 := by
  have ha : s.1 ∈ allS ⟨1, 2, n⟩ bl n := by rw [← spots_all]; exact List.mem_map.2 ⟨s, hs, rfl⟩
  have hS := grey_src h ha ht
  have hrb := refs_bd (rdz V s.1) (h.heap.words s.1).1
  obtain ⟨i1, i2, i3⟩ := h.looks hW hc hs hS ht (takeH (rdz V s.1)).refs.toNat (by omega)
  have hx := i1.heap.words s.1
  have hr0 := h.heap.refs s hs
  have hin := spots_in hs
  obtain ⟨_, _, _, _, _, _, h3, _⟩ := mem_spots hs
  unfold intoW
  have hb := tell_black (rdz (looksW c s.1 (takeH (rdz V s.1)).refs.toNat V) s.1) c hx.1
  rw [i2, if_pos rfl] at hb
  refine ⟨i1.turn hc hs _ (i1.heap.head hs _ (black_bd _ hx) (by rw [black_refs _ hx.1]; exact i1.heap.refs s hs)) (.inl hS) (.inr (.inl ⟨i2, hb, fun v hl => ?_⟩)) (black_refs _ hx.1), ?_⟩
  · obtain ⟨k, h1, h2, _, hv, hv0, _, _⟩ := hl
    have hrf := h.refs s.1
    rw [← hv]
    exact i3 k h1 (by omega) (by rw [hv]; exact hv0)
  · rw [rdz_putz, if_pos ⟨rfl, by have := i1.heap.len; unfold inr; simp; omega⟩]
    exact hb

theorem countP_strict (p q : Int → Bool) : ∀ (l : List Int), (∀ x ∈ l, p x = true → q x = true) → ∀ a ∈ l, p a = false → q a = true → l.countP p + 1 ≤ l.countP q
  | [], _, a, ha, _, _ => by cases ha
  | x :: l, h, a, ha, h1, h2 => by
    have hm : l.countP p ≤ l.countP q := List.countP_mono_left fun y hy => h y (by simp [hy])
    rw [List.countP_cons, List.countP_cons]
    rcases List.mem_cons.1 ha with rfl | ha
    · rw [h1, h2]; simp; omega
    · have := countP_strict p q l (fun y hy => h y (by simp [hy])) a ha h1 h2
      have hx := h x (by simp)
      cases hp : p x with
      | false => simp; omega
      | true => rw [hx hp]; simp; omega
def blk (V : List Int) (c : Int) (hs : List Int) : Nat := hs.countP fun a => tellOf (rdz V a) c == 3
theorem shade_black {V : List Int} (hV : Words V) (hc : 0 ≤ c ∧ c ≤ 1) (v i : Int) (h : tellOf (rdz V i) c = 3) : tellOf (rdz (shadeW V v c) i) c = 3 := by
  unfold shadeW
  rw [rdz_putz]
  split
  · rename_i e
    rw [tell_shade _ c (hV v).1 hc, e.1, h]; simp
  · exact h
theorem looks_black {V : List Int} (hV : Words V) (hc : 0 ≤ c ∧ c ≤ 1) (a : Int) (m : Nat) (i : Int) (h : tellOf (rdz V i) c = 3) : tellOf (rdz (looksW c a m V) i) c = 3 := by
  induction m with
  | zero => exact h
  | succ m ih =>
    rw [looksW_succ]
    unfold lookW
    split
    · exact ih
    · exact shade_black (looksW_words hV c a m (by omega)) hc _ _ ih
theorem into_black {V : List Int} (hV : Words V) (hc : 0 ≤ c ∧ c ≤ 1) (a i : Int) (h : tellOf (rdz V i) c = 3) : tellOf (rdz (intoW c V a) i) c = 3 := by
  have hl := looks_black hV hc a (takeH (rdz V a)).refs.toNat i h
  unfold intoW
  rw [rdz_putz]
  split
  · rename_i e
    obtain ⟨rfl, -⟩ := e
    rw [tell_black _ c (looksW_words hV c a _ (by omega) a).1, hl]; simp
  · exact hl

/-- A pass. -/
theorem PInv.pass (hW : HeapW n bl W) (hc : 0 ≤ c ∧ c ≤ 1) : ∀ (hs : List Int) (V : List Int) (met : Bool), (∀ a ∈ hs, a ∈ allS ⟨1, 2, n⟩ bl n) → PInv n bl W c V →
    PInv n bl W c (hs.foldl (visitP c) (V, met)).1 ∧ (blk V c (allS ⟨1, 2, n⟩ bl n) ≤ blk (hs.foldl (visitP c) (V, met)).1 c (allS ⟨1, 2, n⟩ bl n)) ∧
    (met = false → (hs.foldl (visitP c) (V, met)).2 = true → blk V c (allS ⟨1, 2, n⟩ bl n) + 1 ≤ blk (hs.foldl (visitP c) (V, met)).1 c (allS ⟨1, 2, n⟩ bl n)) ∧
    ((hs.foldl (visitP c) (V, met)).2 = false → (hs.foldl (visitP c) (V, met)).1 = V ∧ met = false ∧ ∀ a ∈ hs, tellOf (rdz V a) c ≠ 2)
  | [], V, met, _, h => ⟨h, Nat.le_refl _, fun h1 h2 => by simp [h1] at h2, fun h1 => ⟨rfl, h1, by simp⟩⟩
  | a :: hs, V, met, hm, h => by
    rw [List.foldl_cons]
    by_cases ht : tellOf (rdz V a) c = 2
    · have hv : visitP c (V, met) a = (intoW c V a, true) := by unfold visitP; rw [if_pos ht]
      rw [hv]
      have ha := hm a (by simp)
      obtain ⟨s, hs', he⟩ := all_spots a ha
      subst he
      obtain ⟨p1, p2⟩ := h.into hW hc hs' ht
      obtain ⟨q1, q2, q3, q4⟩ := PInv.pass hW hc hs (intoW c V s.1) true (fun b hb => hm b (by simp [hb])) p1
      have hst : blk V c (allS ⟨1, 2, n⟩ bl n) + 1 ≤ blk (intoW c V s.1) c (allS ⟨1, 2, n⟩ bl n) := by
        unfold blk
        refine countP_strict _ _ _ (fun x _ hx => ?_) s.1 ha (by simp [ht]) (by simp [p2])
        have hx' : tellOf (rdz V x) c = 3 := by simpa using hx
        simp [into_black h.heap.words hc s.1 x hx']
      refine ⟨q1, by omega, fun _ _ => by omega, fun hf => ?_⟩
      have := (q4 hf).2.1
      cases this
    · have hv : visitP c (V, met) a = (V, met) := by unfold visitP; rw [if_neg ht]
      rw [hv]
      obtain ⟨q1, q2, q3, q4⟩ := PInv.pass hW hc hs V met (fun b hb => hm b (by simp [hb])) h
      refine ⟨q1, q2, q3, fun hf => ?_⟩
      obtain ⟨r1, r2, r3⟩ := q4 hf
      refine ⟨r1, r2, fun b hb => ?_⟩
      rcases List.mem_cons.1 hb with rfl | hb
      · exact ht
      · exact r3 b hb
/-- In the end what is reached is black. -/
theorem PInv.ended {V : List Int} (hW : HeapW n bl W) (h : PInv n bl W c V) (hg : ∀ a ∈ allS ⟨1, 2, n⟩ bl n, tellOf (rdz V a) c ≠ 2) {i : Int} (hS : Src W c (allS ⟨1, 2, n⟩ bl n) i) : tellOf (rdz V i) c = 3 := by
  induction hS with
  | grey a ha ht =>
    rcases h.grown a (.grey a ha ht) with h1 | h1 | h1
    · rw [h1]; exact absurd (by rw [h1]; exact ht) (hg a ha)
    · exact absurd h1 (hg a ha)
    · exact h1
  | led a v hS hl ih =>
    have hSv : Src W c (allS ⟨1, 2, n⟩ bl n) v := .led a v hS hl
    have hnw := h.black a hS ih v hl
    obtain ⟨_, _, _, _, _, _, _, ht⟩ := hl
    rcases h.grown v hSv with h1 | h1 | h1
    · rw [h1] at hnw; exact absurd ht hnw
    · exact absurd h1 (hg v (src_head hW hSv))
    · exact h1
/-- None of these leads to a white one. -/
theorem PInv.leads {V : List Int} (hW : HeapW n bl W) (h : PInv n bl W c V) (hg : ∀ a ∈ allS ⟨1, 2, n⟩ bl n, tellOf (rdz V a) c ≠ 2) {i : Int} (hS : Src W c (allS ⟨1, 2, n⟩ bl n) i) (k : Nat) (hk : 1 ≤ k ∧ (k : Int) ≤ (takeH (rdz V i)).refs) (hi : i + k < W.length)
    (h0 : rdz V (i + k) ≠ 0) (hl : rdz V (i + k) < W.length) : tellOf (rdz V (rdz V (i + k))) c ≠ 1 := fun ht => by
  obtain ⟨s, hs, rfl⟩ := all_spots _ (src_head hW hS)
  have hr := hW.refs s hs
  have hrr := h.refs s.1
  have hf := field_same hW h hs k (by omega)
  rw [hf] at h0 hl ht
  by_cases hS' : Src W c (allS ⟨1, 2, n⟩ bl n) (rdz W (s.1 + k))
  · have := h.ended hW hg hS'; omega
  · rw [h.same _ hS'] at ht
    exact hS' (.led s.1 _ hS ⟨k, hk.1, by omega, hi, rfl, h0, hl, ht⟩)
end
end Go.Proofs.Ytnadiddaeolanaa
