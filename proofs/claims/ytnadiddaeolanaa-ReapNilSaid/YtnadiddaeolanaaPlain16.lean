/- Publishing a heap of things: what the program's steps come to is what is reached. -/
import Derived.Test.YtnadiddaeolanaaPubl16
import Derived.Test.YtnadiddaeolanaaThings
namespace Go.Proofs.Ytnadiddaeolanaa
open Go.RowKit
set_option linter.unusedVariables false
set_option linter.unusedSimpArgs false

theorem hdOf_word {h : Hd} (hu : h.u8) (hm : h.may = true) : hdOf h.word = h := by
  obtain ⟨⟨k0, k1⟩, ⟨c0, c1⟩, ⟨o0, o1⟩, ⟨r0, r1⟩, ⟨s0, s1⟩⟩ := hu
  obtain ⟨b1, b2, b3, b4, b5⟩ : h.kind ≤ 3 ∧ h.colour ≤ 1 ∧ h.owner ≤ 63 ∧ h.size ≤ 95 ∧ h.refs ≤ h.size := by
    unfold Hd.may at hm
    split at hm
    · cases hm
    · omega
  obtain ⟨kind, colour, grey, marked, owner, refs, size⟩ := h
  dsimp only at *
  unfold hdOf Hd.word
  dsimp only
  cases grey <;> cases marked <;> simp only [Hd.mk.injEq, if_true, if_false, Bool.false_eq_true, beq_iff_eq, beq_eq_false_iff_ne] <;> refine ⟨?_, ?_, ?_, ?_, ?_, ?_, ?_⟩ <;> first | omega | (simp; omega)
theorem isHd_word {h : Hd} (hu : h.u8) (hm : h.may = true) : isHd h.word = true := by
  simp [isHd, hdOf_word hu hm, hm]
theorem takeH_word {h : Hd} (hu : h.u8) (hm : h.may = true) : takeH h.word = h := by
  rw [takeH, isHd_word hu hm, if_pos rfl, hdOf_word hu hm]

theorem pubOf_refs {x c : Int} (hx : 0 ≤ x) (hc : 0 ≤ c ∧ c ≤ 1) (h : isLoc x = true) : (takeH (pubOf x c)).refs = (takeH x).refs := by
  unfold pubOf
  rw [takeH_word (pubH_u8 hx ⟨hc.1, by omega⟩) (pubH_may h hc.2), takeH, (isLoc_hd h).1, if_pos rfl]
  rfl

/-- Headers stand at the places 1, 5, ..; they have three fields at most, which lead to headers or nowhere. -/
structure Shp (W : List Int) : Prop where
  words : Words W
  small : W.length ≤ 1000
  refs : ∀ i : Nat, i % 4 = 1 → i < W.length → (takeH (rdz W i)).refs ≤ 3
  field : ∀ (i k : Nat), i % 4 = 1 → i < W.length → k < 3 → rdz W (i + 1 + k) = 0 ∨ 1000 ≤ rdz W (i + 1 + k) ∧ rdz W (i + 1 + k) < 2000 ∨ ∃ j : Nat, rdz W (i + 1 + k) = j ∧ j % 4 = 1 ∧ j < 2000

theorem Shp.refsAt {W : List Int} (h : Shp W) {i : Nat} (hi : i % 4 = 1) (hl : i < W.length) : (refsAt W i).length ≤ 3 := by
  rw [refsAt_len]
  have := h.refs i hi hl
  omega
theorem refsAt_get (W : List Int) (n : Int) (k : Nat) (hk : k < (refsAt W n).length) : (refsAt W n)[k] = rdz W (n + 1 + k) := by simp [refsAt]
theorem Reach.place {W : List Int} (h : Shp W) {n : Int} (hn : n % 4 = 1) {i : Nat} (hr : Reach W n i) : i % 4 = 1 := by
  induction hr with
  | base i hi _ => omega
  | step i j k hr hk hv h0 hl ih =>
    have hk3 := h.refsAt ih hr.lt
    rcases h.field i k ih hr.lt (by omega) with h1 | h1 | ⟨j', h1, h2, _⟩
    · rw [refsAt_get, h1] at hv; omega
    · rw [refsAt_get] at hv
      have := loc_lt hl
      have := h.small
      omega
    · rw [refsAt_get, h1] at hv; omega

/-- What stands in the middle: T has been turned. -/
structure Turned (W : List Int) (n c : Int) (T : Nat → Prop) (V : List Int) (Q : List Int) : Prop where
  len : V.length = W.length
  reach : ∀ i, T i → Reach W n i
  yes : ∀ i : Nat, T i → rdz V i = pubOf (rdz W i) c
  no : ∀ i : Nat, ¬ T i → rdz V i = rdz W i
  work : ∀ q ∈ Q, ∃ i : Nat, q = i ∧ T i
/-- What leads on from a place is turned. -/
def Led (W : List Int) (T : Nat → Prop) (i : Nat) (m : Nat) : Prop := ∀ k, k < m → ∀ (hk : k < (refsAt W i).length), ∀ j : Nat, (refsAt W i)[k] = j → j ≠ 0 → isLoc (rdz W j) = true → T j

theorem Reach.loc {W : List Int} {n : Int} {i : Nat} (h : Reach W n i) : isLoc (rdz W i) = true := by
  cases h with
  | base _ _ h => exact h
  | step _ _ _ _ _ _ _ h => exact h
theorem rdz_putz' (W : List Int) (a v j : Int) : rdz (putz W a v) j = if inr W.length a = true ∧ j = a then v else rdz W j := by
  cases hi : inr W.length a with
  | false => simp [putz, hi]
  | true =>
    obtain ⟨i, rfl, hlt⟩ := inr_true hi
    rw [putz_nat hlt]
    by_cases e : j = i
    · subst e
      rw [rdz_nat (by simpa using hlt)]
      simp
    · simp only [e, and_false, if_false]
      unfold rdz
      rw [List.length_set]
      cases hj : inr W.length j with
      | false => simp
      | true =>
        obtain ⟨q, rfl, hq⟩ := inr_true hj
        have : ¬ i = q := fun h => e (by rw [h])
        simp [List.getElem?_set, this]

/-- One place is turned, or not. -/
theorem Turned.turn {W : List Int} {n c : Int} {T : Nat → Prop} {V Q : List Int} (h : Turned W n c T V Q) (hW : Words W) (hc : 0 ≤ c ∧ c ≤ 1) (x : Int) (hx : ∀ j : Nat, x = j → isLoc (rdz W j) = true → Reach W n j) :
    ∃ T' : Nat → Prop, Turned W n c T' (turnWs V x c) (turnQ V Q x) ∧ (∀ i, T i → T' i) ∧ (∀ j : Nat, x = j → isLoc (rdz W j) = true → T' j) ∧ (∀ i, T' i → T i ∨ (i : Int) ∈ turnQ V Q x) := by
  by_cases hl : isLoc (rdz V x) = true
  · obtain ⟨j, rfl, hj⟩ := inr_true (loc_in hl)
    have hnT : ¬ T j := fun ht => by
      rw [h.yes j ht, pubOf_not (hW j).1 hc] at hl; cases hl
    have hVW := h.no j hnT
    rw [hVW] at hl
    have hin : inr V.length (j : Int) = true := inr_nat hj
    have hws : ∀ i : Nat, rdz (turnWs V j c) i = if i = j then pubOf (rdz W j) c else rdz V i := fun i => by
      unfold turnWs
      rw [rdz_putz', hin, hVW]
      by_cases e : i = j
      · subst e; simp [turnW, hl]
      · have : ¬ (i : Int) = j := by omega
        simp [e, this]
    refine ⟨fun i => T i ∨ i = j, ⟨(putz_length _ _ _).trans h.len, fun i hi => ?_, fun i hi => ?_, fun i hi => ?_, fun q hq => ?_⟩, fun i hi => .inl hi, fun j' e _ => .inr (by omega), fun i hi => ?_⟩
    · rcases hi with hi | rfl
      · exact h.reach i hi
      · exact hx _ rfl hl
    · rw [hws]
      by_cases e : i = j
      · subst e; rw [if_pos rfl]
      · rw [if_neg e]
        rcases hi with hi | hi
        · exact h.yes i hi
        · exact absurd hi e
    · rw [hws, if_neg (fun e => hi (.inr e)), h.no i (fun ht => hi (.inl ht))]
    · unfold turnQ at hq
      rw [hVW, hl] at hq
      simp only [if_true, List.mem_append, List.mem_singleton] at hq
      rcases hq with hq | rfl
      · obtain ⟨i, e, hi⟩ := h.work q hq
        exact ⟨i, e, .inl hi⟩
      · exact ⟨j, rfl, .inr rfl⟩
    · rcases hi with hi | rfl
      · exact .inl hi
      · right
        unfold turnQ
        rw [hVW, hl]
        simp
  · have hl' : isLoc (rdz V x) = false := by simpa using hl
    have hV : turnWs V x c = V := by
      unfold turnWs turnW
      rw [hl']
      simp [putz_rdz]
    have hQ : turnQ V Q x = Q := by unfold turnQ; rw [hl']; rfl
    rw [hV, hQ]
    refine ⟨T, h, fun i hi => hi, fun j e hj => ?_, fun i hi => .inl hi⟩
    subst e
    rcases Classical.em (T j) with ht | ht
    · exact ht
    · rw [h.no j ht] at hl'
      rw [hl'] at hj; cases hj

/-- The first m fields of a turned object are looked at. -/
theorem Turned.look {W : List Int} (hS : Shp W) {n c : Int} (hn : n % 4 = 1) (hc : 0 ≤ c ∧ c ≤ 1) {T : Nat → Prop} {V Q : List Int} (h : Turned W n c T V Q) (i : Nat) (hi : T i) (m : Nat) (hm : m ≤ (refsAt W i).length) :
    ∃ T' : Nat → Prop, Turned W n c T' (lookRun c i m (V, Q)).1 (lookRun c i m (V, Q)).2 ∧ (∀ j, T j → T' j) ∧ Led W T' i m ∧ (∀ j, T' j → T j ∨ (j : Int) ∈ (lookRun c i m (V, Q)).2) ∧ (∃ t, (lookRun c i m (V, Q)).2 = Q ++ t) := by
  have hri := h.reach i hi
  have hp := Reach.place hS hn hri
  have h3 := hS.refsAt hp hri.lt
  induction m with
  | zero => exact ⟨T, h, fun j hj => hj, fun k hk => by omega, fun j hj => .inl hj, [], by simp [lookRun]⟩
  | succ m ih =>
    obtain ⟨T1, h1, h2, h4, h5, t1, h6⟩ := ih (by omega)
    rw [lookRun_succ]
    generalize lookRun c i m (V, Q) = S at *
    have hmk : m < (refsAt W i).length := by omega
    have hnot : ∀ T2 : Nat → Prop, (∀ j, T2 j → Reach W n j) → ¬ T2 (i + 1 + m) := fun T2 hr ht => by
      have := Reach.place hS hn (hr _ ht)
      omega
    have hword : rdz S.1 ((i : Int) + 1 + m) = rdz W ((i : Int) + 1 + m) := by
      have := h1.no (i + 1 + m) (hnot T1 h1.reach)
      simpa using this
    have hget := refsAt_get W i m hmk
    have hld : ∀ T2 : Nat → Prop, (∀ j, T1 j → T2 j) → (∀ j : Nat, rdz W ((i : Int) + 1 + m) = j → j ≠ 0 → isLoc (rdz W j) = true → T2 j) → Led W T2 i (m + 1) := fun T2 ht hl k hk hkl j hj h0 hlj => by
      by_cases e : k = m
      · subst e
        rw [hget] at hj
        exact hl j hj h0 hlj
      · exact ht j (h4 k (by omega) hkl j hj h0 hlj)
    unfold lookStep
    dsimp only
    rw [hword]
    by_cases hv : rdz W ((i : Int) + 1 + m) = 0
    · rw [if_pos hv]
      exact ⟨T1, h1, h2, hld T1 (fun _ h => h) (fun j hj h0 _ => absurd hj (by omega)), h5, t1, h6⟩
    · rw [if_neg hv]
      have hw64 : wrap64 (rdz W ((i : Int) + 1 + m)) = rdz W ((i : Int) + 1 + m) := by
        rcases hS.field i m hp hri.lt (by omega) with h | h | ⟨j, h, h'⟩
        · exact absurd h hv
        · unfold wrap64; omega
        · unfold wrap64; omega
      rw [hw64]
      obtain ⟨T2, g1, g2, g3, g4⟩ := h1.turn hS.words hc (rdz W ((i : Int) + 1 + m)) (fun j hj hl => Reach.step i j m hri hmk (hget.trans hj) (fun e => hv (by rw [hj, e]; rfl)) hl)
      refine ⟨T2, g1, fun j hj => g2 j (h2 j hj), hld T2 g2 (fun j hj h0 hl => g3 j hj hl), fun j hj => ?_, ?_⟩
      · rcases g4 j hj with h | h
        · rcases h5 j h with h | h
          · exact .inl h
          · right
            unfold turnQ; split
            · exact List.mem_append_left _ h
            · exact h
        · exact .inr h
      · unfold turnQ; split
        · exact ⟨t1 ++ [rdz W ((i : Int) + 1 + m)], by rw [h6]; simp⟩
        · exact ⟨t1, h6⟩

theorem PubTo.reach {W : List Int} (hS : Shp W) {n c : Int} (hn : n % 4 = 1) (hc : 0 ≤ c ∧ c ≤ 1) {s : List Int × List Int} {V' : List Int} (hp : PubTo c s V') :
    ∀ T : Nat → Prop, Turned W n c T s.1 s.2 → (∀ i, Reach W n i → n = i → T i) → (∀ i, T i → (i : Int) ∈ s.2 ∨ Led W T i (refsAt W i).length) → ∃ T' : Nat → Prop, Turned W n c T' V' [] ∧ ∀ i, T' i ↔ Reach W n i := by
  induction hp with
  | done V =>
    intro T h hb hl
    refine ⟨T, h, fun i => ⟨h.reach i, fun hr => ?_⟩⟩
    induction hr with
    | base i hi hloc => exact hb i (.base i hi hloc) hi
    | step i j k hr hk hv h0 hlj ih =>
      rcases hl i ih with h1 | h1
      · cases h1
      · exact h1 k hk hk j hv h0 hlj
  | step s V' hs k ih =>
    intro T h hb hl
    obtain ⟨V, Q⟩ := s
    cases Q with
    | nil => exact absurd rfl hs
    | cons q rest =>
      obtain ⟨i, rfl, hi⟩ := h.work q (by simp)
      have hr := h.reach i hi
      have hrefs : (takeH (rdz V i)).refs.toNat = (refsAt W i).length := by
        rw [refsAt_len, h.yes i hi, pubOf_refs (hS.words i).1 hc hr.loc]
      obtain ⟨T1, h1, h2, h4, h5, t, h6⟩ := h.look hS hn hc i hi (refsAt W i).length (Nat.le_refl _)
      have hps : pubStep c (V, (i : Int) :: rest) = ((lookRun c i (refsAt W i).length (V, (i : Int) :: rest)).1, rest ++ t) := by
        unfold pubStep
        simp only [List.headD_cons]
        rw [hrefs, h6]
        rfl
      rw [hps] at ih
      refine ih T1 ⟨h1.len, h1.reach, h1.yes, h1.no, fun q hq => h1.work q (by rw [h6]; exact List.mem_cons_of_mem _ hq)⟩ (fun j hj he => h2 j (hb j hj he)) (fun j hj => ?_)
      by_cases e : j = i
      · subst e; exact .inr h4
      · rcases h5 j hj with h | h
        · rcases hl j h with h | h
          · simp only [List.mem_cons] at h
            rcases h with h | h
            · omega
            · exact .inl (List.mem_append_left _ h)
          · exact .inr (fun k hk hkl j' e1 e2 e3 => h2 j' (h k hk hkl j' e1 e2 e3))
        · rw [h6] at h
          simp only [List.cons_append, List.mem_cons] at h
          rcases h with h | h
          · omega
          · exact .inl h

/-- The plain law. -/
theorem publish_plain {W : List Int} (hS : Shp W) {n c : Int} (hn : n % 4 = 1) (hc : 0 ≤ c ∧ c ≤ 1) {V' : List Int} (hp : PubTo c (turnWs W n c, turnQ W [] n) V') {B : List Bool} (hB : B.length = W.length) (hR : ∀ i : Nat, i < W.length → (B[i]? = some true ↔ Reach W n i)) :
    V' = pubTo W c B W.length := by
  have h0 : Turned W n c (fun _ => False) W [] := ⟨rfl, fun _ h => h.elim, fun _ h => h.elim, fun _ _ => rfl, fun q hq => by cases hq⟩
  obtain ⟨T, h1, _, h3, h4⟩ := h0.turn hS.words hc n (fun j hj hl => .base j hj hl)
  obtain ⟨T', g1, g2⟩ := PubTo.reach hS hn hc hp T h1 (fun i hr he => h3 i he hr.loc) (fun i hi => by
    rcases h4 i hi with h | h
    · exact h.elim
    · exact .inl h)
  apply List.ext_getElem?
  intro i
  by_cases hi : i < W.length
  · have hl : i < V'.length := by rw [g1.len]; exact hi
    rw [List.getElem?_eq_getElem hl, ← rdz_nat hl]
    simp only [pubTo, List.getElem?_mapIdx, List.getElem?_eq_getElem hi, Option.map_some]
    congr 1
    by_cases hr : Reach W n i
    · rw [if_pos ⟨hi, (hR i hi).2 hr⟩, g1.yes i ((g2 i).2 hr), rdz_nat hi]
      have hloc := hr.loc
      rw [rdz_nat hi] at hloc
      rw [takeH, (isLoc_hd hloc).1, if_pos rfl]
      rfl
    · rw [if_neg (fun h => hr ((hR i hi).1 h.2)), g1.no i (fun ht => hr ((g2 i).1 ht)), rdz_nat hi]
  · rw [List.getElem?_eq_none (by rw [g1.len]; omega), List.getElem?_eq_none (by rw [pubTo_len]; omega)]
end Go.Proofs.Ytnadiddaeolanaa
