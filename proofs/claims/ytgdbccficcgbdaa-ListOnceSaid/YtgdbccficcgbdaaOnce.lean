/- ListOnce: a map of the places that are there, and their classes. -/
import Derived.Test.YtgdbccficcgbdaaLaw07
import Derived.Maps.Own
import Derived.Maps.OwnOps
import Derived.Maps.Views
import Derived.Maps.OwnSet
import Derived.Maps.RangeWalk
namespace Go.Proofs.Ytgdbccficcgbdaa
open Go.RowKit Go.Maps Go.Shelf Go.ChangeMaps Go.MapKept Go.WideShapes
open Go.WideElems (Fit rd rg pl rd_val elemAt)
set_option linter.unusedVariables false
set_option linter.unusedSimpArgs false

def keysL (L : Nat → List Int) : List Int := L 0 ++ (L 1 ++ (L 2 ++ L 3))
def clsL (L : Nat → List Int) (x : Int) : Int := if x ∈ L 0 then 1 else if x ∈ L 1 then 2 else if x ∈ L 2 then 3 else if x ∈ L 3 then 4 else 0
theorem keysL_len (L : Nat → List Int) : (keysL L).length = total L := by simp [keysL, total]; omega
theorem four {c : Nat} (h : c < 4) : c = 0 ∨ c = 1 ∨ c = 2 ∨ c = 3 := by omega
theorem hasL_keys (L : Nat → List Int) (x : Int) : hasL L x = decide (x ∈ keysL L) := by
  have : (List.range 4) = [0, 1, 2, 3] := by decide
  simp [hasL, this, keysL, Bool.or_assoc]
theorem mem_keys {L : Nat → List Int} {x : Int} : x ∈ keysL L ↔ ∃ c, c < 4 ∧ x ∈ L c := by
  constructor
  · intro h
    simp only [keysL, List.mem_append] at h
    rcases h with h | h | h | h
    · exact ⟨0, by omega, h⟩
    · exact ⟨1, by omega, h⟩
    · exact ⟨2, by omega, h⟩
    · exact ⟨3, by omega, h⟩
  · rintro ⟨c, hc, h⟩
    rcases four hc with rfl | rfl | rfl | rfl <;> simp [keysL, h]

/-- No place is there twice. -/
def Once (L : Nat → List Int) : Prop := (keysL L).Nodup
theorem Once.apart {L : Nat → List Int} (h : Once L) {c d : Nat} (hc : c < 4) (hd : d < 4) {x : Int} (h1 : x ∈ L c) (h2 : x ∈ L d) : c = d := by
  unfold Once keysL at h
  simp only [List.nodup_append, List.mem_append] at h
  obtain ⟨_, ⟨_, ⟨_, _, h23⟩, h1'⟩, h0⟩ := h
  rcases four hc with rfl | rfl | rfl | rfl <;> rcases four hd with rfl | rfl | rfl | rfl <;> first | rfl | skip
  all_goals (exfalso)
  · exact h0 x h1 x (.inl h2) rfl
  · exact h0 x h1 x (.inr (.inl h2)) rfl
  · exact h0 x h1 x (.inr (.inr h2)) rfl
  · exact h0 x h2 x (.inl h1) rfl
  · exact h1' x h1 x (.inl h2) rfl
  · exact h1' x h1 x (.inr h2) rfl
  · exact h0 x h2 x (.inr (.inl h1)) rfl
  · exact h1' x h2 x (.inl h1) rfl
  · exact h23 x h1 x h2 rfl
  · exact h0 x h2 x (.inr (.inr h1)) rfl
  · exact h1' x h2 x (.inr h1) rfl
  · exact h23 x h2 x h1 rfl
theorem Once.row {L : Nat → List Int} (h : Once L) {c : Nat} (hc : c < 4) : (L c).Nodup := by
  unfold Once keysL at h
  simp only [List.nodup_append] at h
  obtain ⟨a0, ⟨a1, ⟨a2, a3, _⟩, _⟩, _⟩ := h
  rcases four hc with rfl | rfl | rfl | rfl <;> assumption
theorem Once.of {L : Nat → List Int} (h1 : ∀ c, c < 4 → (L c).Nodup) (h2 : ∀ c d x, c < 4 → d < 4 → x ∈ L c → x ∈ L d → c = d) : Once L := by
  unfold Once keysL
  simp only [List.nodup_append, List.mem_append]
  refine ⟨h1 0 (by omega), ⟨h1 1 (by omega), ⟨h1 2 (by omega), h1 3 (by omega), ?_⟩, ?_⟩, ?_⟩
  · rintro a ha b hb rfl; exact absurd (h2 2 3 a (by omega) (by omega) ha hb) (by omega)
  · rintro a ha b (hb | hb) rfl
    · exact absurd (h2 1 2 a (by omega) (by omega) ha hb) (by omega)
    · exact absurd (h2 1 3 a (by omega) (by omega) ha hb) (by omega)
  · rintro a ha b (hb | hb | hb) rfl
    · exact absurd (h2 0 1 a (by omega) (by omega) ha hb) (by omega)
    · exact absurd (h2 0 2 a (by omega) (by omega) ha hb) (by omega)
    · exact absurd (h2 0 3 a (by omega) (by omega) ha hb) (by omega)
theorem Once.cls {L : Nat → List Int} (h : Once L) {c : Nat} (hc : c < 4) {x : Int} (hx : x ∈ L c) : clsL L x = c + 1 := by
  have hne : ∀ d, d < 4 → d ≠ c → ¬ x ∈ L d := fun d hd hn hm => hn (h.apart hd hc hm hx)
  rcases four hc with rfl | rfl | rfl | rfl
  · simp [clsL, hx]
  · simp [clsL, hx, hne 0 (by omega) (by omega)]
  · simp [clsL, hx, hne 0 (by omega) (by omega), hne 1 (by omega) (by omega)]
  · simp [clsL, hx, hne 0 (by omega) (by omega), hne 1 (by omega) (by omega), hne 2 (by omega) (by omega)]
theorem cls_none {L : Nat → List Int} {x : Int} (h : hasL L x = false) : clsL L x = 0 := by
  rw [hasL_keys] at h
  have h := of_decide_eq_false h
  have hn : ∀ d, d < 4 → ¬ x ∈ L d := fun d hd hm => h (mem_keys.2 ⟨d, hd, hm⟩)
  simp [clsL, hn 0 (by omega), hn 1 (by omega), hn 2 (by omega), hn 3 (by omega)]
theorem Once.sub {L L' : Nat → List Int} (h : Once L) (hs : ∀ c, c < 4 → (L' c).Sublist (L c)) : Once L' :=
  Once.of (fun c hc => (h.row hc).sublist (hs c hc)) (fun c d x hc hd h1 h2 => h.apart hc hd ((hs c hc).mem h1) ((hs d hd).mem h2))
theorem Once.left {L : Nat → List Int} (h : Once L) (lo hi : Int) : Once (fun c => left lo hi (L c)) := h.sub (fun c _ => List.filter_sublist)
theorem Once.drop {L : Nat → List Int} (h : Once L) (k : Nat) : Once (upd L k (L k).dropLast) := h.sub (fun c _ => by
  unfold upd; split
  · rename_i e; subst e; exact List.dropLast_sublist _
  · exact List.Sublist.refl _)
theorem Once.push {L : Nat → List Int} (h : Once L) {k : Nat} (hk : k < 4) {x : Int} (hx : hasL L x = false) : Once (upd L k (L k ++ [x])) := by
  rw [hasL_keys] at hx
  have hx := of_decide_eq_false hx
  have hn : ∀ d, d < 4 → ¬ x ∈ L d := fun d hd hm => hx (mem_keys.2 ⟨d, hd, hm⟩)
  have hm : ∀ c y, c < 4 → y ∈ upd L k (L k ++ [x]) c → y ∈ L c ∨ (c = k ∧ y = x) := fun c y hc hy => by
    unfold upd at hy
    split at hy
    · rename_i e; subst e; simp at hy; rcases hy with hy | hy
      · exact .inl hy
      · exact .inr ⟨rfl, hy⟩
    · exact .inl hy
  refine Once.of (fun c hc => ?_) (fun c d y hc hd h1 h2 => ?_)
  · unfold upd; split
    · rename_i e; subst e
      rw [List.nodup_append]
      exact ⟨h.row hc, by simp, by rintro a ha b hb rfl; simp at hb; subst hb; exact hn _ hc ha⟩
    · exact h.row hc
  · rcases hm c y hc h1 with h1 | ⟨e1, e2⟩ <;> rcases hm d y hd h2 with h2 | ⟨e3, e4⟩
    · exact h.apart hc hd h1 h2
    · exact absurd (e4 ▸ h1) (hn _ hc)
    · exact absurd (e2 ▸ h2) (hn _ hd)
    · omega

open Classical in
theorem length_le_nodup {α : Type} : ∀ (l m : List α), l.Nodup → (∀ x ∈ l, x ∈ m) → l.length ≤ m.length
  | [], m, _, _ => Nat.zero_le _
  | a :: l, m, hn, hs => by
    have ha : a ∈ m := hs a (by simp)
    rw [List.nodup_cons] at hn
    have := length_le_nodup l (m.erase a) hn.2 (fun x hx => (List.mem_erase_of_ne (fun e => hn.1 (by rw [← e]; exact hx))).2 (hs x (by simp [hx])))
    rw [List.length_erase_of_mem ha] at this
    have : 0 < m.length := List.length_pos_of_mem ha
    simp only [List.length_cons]
    omega

/-- The map at block b: what is there, and its class. -/
def MapI (w : World) (b n : Nat) (L : Nat → List Int) : Prop :=
  ∃ D : DataW Unit, w.ownsMap Try.prog 3 (plainElem Try.prog 3) b n D ∧ (∀ x, (Lit.int .i64 x).wf = true → Maps.has D (.int .i64 x) = hasL L x) ∧
    (∀ x, (Lit.int .i64 x).wf = true → D.atKey (.int .i64 x) (.lit (.int .i64 0)) = .lit (.int .i64 (clsL L x))) ∧ Once L ∧ ∀ x ∈ keysL L, (Lit.int .i64 x).wf = true

theorem law_int : Keyed Try.prog 3 := int_keyed Try.underlying3

/-- How many entries. -/
theorem size_keys {w : World} {b n : Nat} {D : DataW Unit} {K : List Int} (h : w.ownsMap Try.prog 3 (plainElem Try.prog 3) b n D) (hn : K.Nodup) (hwf : ∀ x ∈ K, (Lit.int .i64 x).wf = true)
    (hh : ∀ x, (Lit.int .i64 x).wf = true → Maps.has D (.int .i64 x) = decide (x ∈ K)) : Maps.size D = K.length := by
  have hkeys : ∃ es, D = .map es ∧ es.Pairwise (fun p q => p.1 ≠ q.1) ∧ ∀ p ∈ es, ∃ x, p.1 = .int .i64 x ∧ (Lit.int .i64 x).wf = true := by
    obtain ⟨es, clock, _, F, _, rfl⟩ := h
    refine ⟨_, rfl, ((sorted_perm _).pairwise_iff (fun {_ _} hne => Ne.symm hne)).2 (Maps.fit_apart law_int F), fun p hp => ?_⟩
    obtain ⟨v, hv⟩ := Maps.fit_keys F p (mem_sorted.1 hp)
    obtain ⟨x, _, h2, h3⟩ := Maps.keyOf_int_inv Try.underlying3 hv
    exact ⟨x, h2, h3⟩
  obtain ⟨es, rfl, hp, hk⟩ := hkeys
  have h1 : (es.map (·.1)).Nodup := by
    rw [List.Nodup, List.pairwise_map]; exact hp
  have h2 : (K.map (Lit.int .i64)).Nodup := by
    rw [List.Nodup, List.pairwise_map]; exact hn.imp (fun {a b} hab e => hab (by cases e; rfl))
  have hmem : ∀ x, (Lit.int .i64 x).wf = true → (Lit.int .i64 x ∈ es.map (·.1) ↔ x ∈ K) := fun x hx => by
    have := hh x hx
    rw [Maps.has_eq] at this
    constructor
    · intro hm
      obtain ⟨p, hp', he⟩ := List.mem_map.1 hm
      have h' : (es.any fun p => p.1.sameKey (.int .i64 x)) = true := List.any_eq_true.2 ⟨p, hp', by rw [he]; exact WideAt.sameKey_self trivial⟩
      rw [this] at h'
      exact of_decide_eq_true h'
    · intro hm
      rw [decide_eq_true hm] at this
      obtain ⟨p, hp', he⟩ := List.any_eq_true.1 this
      exact List.mem_map.2 ⟨p, hp', WideAt.sameKey_eq he⟩
  have e1 := length_le_nodup _ _ h1 (fun y hy => by
    obtain ⟨p, hp', rfl⟩ := List.mem_map.1 hy
    obtain ⟨x, hx, hw⟩ := hk p hp'
    rw [hx] at hy ⊢
    exact List.mem_map.2 ⟨x, (hmem x hw).1 hy, rfl⟩)
  have e2 := length_le_nodup _ _ h2 (fun y hy => by
    obtain ⟨x, hx, rfl⟩ := List.mem_map.1 hy
    exact (hmem x (hwf x hx)).2 hx)
  simp only [List.length_map] at e1 e2
  show es.length = K.length
  omega

theorem MapI.made (w : World) : MapI (w.alloc (.map #[] 0)) w.heap.size 0 (fun _ => []) :=
  ⟨_, World.ownsMap_made w _ _ _, fun x hx => by simp [hasL_keys, keysL]; rfl, fun x hx => rfl, by simp [Once, keysL], by simp [keysL]⟩
theorem MapI.mono {w : World} {b n n' : Nat} {L : Nat → List Int} (h : MapI w b n L) (hn : n ≤ n') : MapI w b n' L := by
  obtain ⟨D, h1, h2⟩ := h
  exact ⟨D, h1.mono hn, h2⟩
theorem MapI.lt {w : World} {b n : Nat} {L : Nat → List Int} (h : MapI w b n L) : b < w.heap.size := by
  obtain ⟨D, h1, _⟩ := h
  exact h1.lt
theorem MapI.keep {S : List Nat} {w w' : World} {b n : Nat} {L : Nat → List Int} (h : MapI w b n L) (k : Keep S w w') (hb : b ∉ S) : MapI w' b n L := by
  obtain ⟨D, ⟨es, clock, h0, h1⟩, h2⟩ := h
  exact ⟨D, ⟨es, clock, k.get h0 hb, h1⟩, h2⟩
theorem MapI.once {w : World} {b n : Nat} {L : Nat → List Int} (h : MapI w b n L) : Once L := by obtain ⟨D, _, _, _, h, _⟩ := h; exact h
theorem MapI.wf {w : World} {b n : Nat} {L : Nat → List Int} (h : MapI w b n L) {c : Nat} (hc : c < 4) {x : Int} (hx : x ∈ L c) : (Lit.int .i64 x).wf = true := by
  obtain ⟨D, _, _, _, _, h⟩ := h
  exact h x (mem_keys.2 ⟨c, hc, hx⟩)
theorem MapI.look {w : World} {b n : Nat} {L : Nat → List Int} (h : MapI w b n L) {k : Int} (hk : (Lit.int .i64 k).wf = true) :
    (Instr.lookup 106 (.map (some b)) (.int .i64 k) false).run Try.prog w = .ok (.int .i64 (clsL L k)) w := by
  obtain ⟨D, h1, h2, h3, _⟩ := h
  obtain ⟨c, hrun, hat, _⟩ := h1.lookup_int law_int Try.underlying106 Try.underlying3 (zero_int w) (keyOf_int_mk Try.underlying3 hk)
  rw [h3 k hk] at hat
  cases hat
  exact hrun
theorem MapI.look_ok {w : World} {b n : Nat} {L : Nat → List Int} (h : MapI w b n L) {k : Int} (hk : (Lit.int .i64 k).wf = true) :
    (Instr.lookup 106 (.map (some b)) (.int .i64 k) true).run Try.prog w = .ok (.tuple #[.int .i64 (clsL L k), .bool (hasL L k)]) w := by
  obtain ⟨D, h1, h2, h3, _⟩ := h
  obtain ⟨v, ps, hrun, hv⟩ := h1.look_ok law_int Try.underlying106 (zero_int w) (zd := .lit (.int .i64 0)) (zp := []) (plainElem_int Try.underlying3 (by decide)) (keyOf_int_mk Try.underlying3 hk)
  rw [h3 k hk] at hv
  obtain ⟨c, rfl, hc, _⟩ := plainElem_int_inv Try.underlying3 hv
  cases hc
  rw [h2 k hk] at hrun
  exact hrun
theorem MapI.size {w : World} {b n : Nat} {D : DataW Unit} {L : Nat → List Int} (h : w.ownsMap Try.prog 3 (plainElem Try.prog 3) b n D) (h2 : ∀ x, (Lit.int .i64 x).wf = true → Maps.has D (.int .i64 x) = hasL L x) (ho : Once L) (hw : ∀ x ∈ keysL L, (Lit.int .i64 x).wf = true) : Maps.size D = total L := by
  rw [← keysL_len]
  exact size_keys h ho hw (fun x hx => by rw [h2 x hx, hasL_keys])
theorem MapI.len {w : World} {b n : Nat} {L : Nat → List Int} (h : MapI w b n L) (ty : TypeId) : (Builtin.len_ #[106] ty #[.map (some b)]).run Try.prog w = .ok (.int .i64 (total L : Nat)) w := by
  obtain ⟨D, h1, h2, h3, h4, h5⟩ := h
  have := h1.len Try.underlying106 ty
  rw [MapI.size h1 h2 h4 h5] at this
  exact this
theorem hasL_upd {L : Nat → List Int} {k : Nat} (hk : k < 4) (xs : List Int) (y : Int) : hasL (upd L k xs) y = ((List.range 4).any fun c => if c = k then decide (y ∈ xs) else decide (y ∈ L c)) := by
  unfold hasL upd
  congr 1
  funext c
  split <;> rfl
theorem hasL_push (L : Nat → List Int) {k : Nat} (hk : k < 4) (x y : Int) : hasL (upd L k (L k ++ [x])) y = (hasL L y || decide (y = x)) := by
  rw [Bool.eq_iff_iff, Bool.or_eq_true, hasL_keys, hasL_keys, decide_eq_true_iff, decide_eq_true_iff, decide_eq_true_iff, mem_keys, mem_keys]
  constructor
  · rintro ⟨c, hc, h⟩
    unfold upd at h
    split at h
    · rename_i e; subst e; simp at h; rcases h with h | h
      · exact .inl ⟨_, hc, h⟩
      · exact .inr h
    · exact .inl ⟨c, hc, h⟩
  · rintro (⟨c, hc, h⟩ | rfl)
    · refine ⟨c, hc, ?_⟩
      unfold upd; split
      · rename_i e; subst e; simp [h]
      · exact h
    · exact ⟨k, hk, by simp [upd]⟩
theorem cls_push {L : Nat → List Int} (ho : Once L) {k : Nat} (hk : k < 4) {x : Int} (hx : hasL L x = false) (y : Int) : clsL (upd L k (L k ++ [x])) y = if y = x then (k : Int) + 1 else clsL L y := by
  have ho' := ho.push hk hx
  split
  · rename_i e; subst e
    exact ho'.cls hk (by simp [upd])
  · rename_i e
    cases hy : hasL L y with
    | true =>
      rw [hasL_keys] at hy
      obtain ⟨c, hc, hm⟩ := mem_keys.1 (of_decide_eq_true hy)
      rw [ho.cls hc hm, ho'.cls hc]
      unfold upd; split
      · rename_i e; subst e; simp [hm]
      · exact hm
    | false =>
      rw [cls_none hy, cls_none]
      rw [hasL_push L hk, hy]; simp [e]
theorem MapI.put {w : World} {b n : Nat} {L : Nat → List Int} (h : MapI w b n L) {k : Nat} (hk : k < 4) {x : Int} (hx : (Lit.int .i64 x).wf = true) (hh : hasL L x = false) (hn : n < maxLen) :
    ∃ w', (Instr.mapUpdate 106 (.map (some b)) (.int .i64 x) (.int .i64 ((k : Int) + 1))).run Try.prog w = .ok () w' ∧ MapI w' b (n + 1) (upd L k (L k ++ [x])) ∧ Keep [b] w w' := by
  obtain ⟨D, h1, h2, h3, h4, h5⟩ := h
  have hv : (Lit.int .i64 ((k : Int) + 1)).wf = true := WalkArith.wf_i64 (by omega)
  obtain ⟨w', hrun, r1, r2⟩ := h1.update law_int Try.underlying106 hn (keyOf_int_mk Try.underlying3 hx) (plainElem_int Try.underlying3 hv)
  refine ⟨w', hrun, ⟨_, r1, fun y hy => ?_, fun y hy => ?_, h4.push hk hh, fun y hy => ?_⟩, Keep.grown (Keep.refl _ _) r2 (fun g hg => .inr (by cases hg; simp))⟩
  · by_cases e : y = x
    · subst e
      rw [has_put_same h1.isMap (by simp [WideAt.IsKeyLit]), hasL_push L hk]
      simp
    · rw [has_put_other (by simpa using e), h2 y hy, hasL_push L hk]
      simp [e]
  · rw [cls_push h4 hk hh]
    by_cases e : y = x
    · subst e
      rw [atKey_put_same h1.isMap (by simp [WideAt.IsKeyLit]), if_pos rfl]
    · rw [atKey_put_other (by simpa using e), h3 y hy, if_neg e]
  · obtain ⟨c, hc, hm⟩ := mem_keys.1 hy
    unfold upd at hm
    split at hm
    · rename_i e; subst e; simp at hm; rcases hm with hm | rfl
      · exact h5 y (mem_keys.2 ⟨_, hc, hm⟩)
      · exact hx
    · exact h5 y (mem_keys.2 ⟨c, hc, hm⟩)

theorem hasL_sub {L L' : Nat → List Int} (ho : Once L) (p : Int → Bool) (hp : ∀ c, c < 4 → ∀ y, y ∈ L' c ↔ (y ∈ L c ∧ p y = true)) (y : Int) : hasL L' y = (hasL L y && p y) := by
  rw [Bool.eq_iff_iff, Bool.and_eq_true, hasL_keys, hasL_keys, decide_eq_true_iff, decide_eq_true_iff, mem_keys, mem_keys]
  constructor
  · rintro ⟨c, hc, h⟩
    exact ⟨⟨c, hc, ((hp c hc y).1 h).1⟩, ((hp c hc y).1 h).2⟩
  · rintro ⟨⟨c, hc, h⟩, h2⟩
    exact ⟨c, hc, (hp c hc y).2 ⟨h, h2⟩⟩
theorem cls_sub {L L' : Nat → List Int} (ho : Once L) (ho' : Once L') (p : Int → Bool) (hp : ∀ c, c < 4 → ∀ y, y ∈ L' c ↔ (y ∈ L c ∧ p y = true)) (y : Int) : clsL L' y = if hasL L' y then clsL L y else 0 := by
  cases hy : hasL L' y with
  | true =>
    rw [hasL_keys] at hy
    obtain ⟨c, hc, hm⟩ := mem_keys.1 (of_decide_eq_true hy)
    rw [ho'.cls hc hm, ho.cls hc ((hp c hc y).1 hm).1]
    rfl
  | false => exact cls_none hy
/-- The datum behind places that have gone. -/
theorem MapI.sub {w : World} {b n : Nat} {L L' : Nat → List Int} {D D' : DataW Unit} (h1 : w.ownsMap Try.prog 3 (plainElem Try.prog 3) b n D') (h2 : ∀ x, (Lit.int .i64 x).wf = true → Maps.has D (.int .i64 x) = hasL L x)
    (h3 : ∀ x, (Lit.int .i64 x).wf = true → D.atKey (.int .i64 x) (.lit (.int .i64 0)) = .lit (.int .i64 (clsL L x))) (h4 : Once L) (h5 : ∀ x ∈ keysL L, (Lit.int .i64 x).wf = true) (h4' : Once L')
    (p : Int → Bool) (hp : ∀ c, c < 4 → ∀ y, y ∈ L' c ↔ (y ∈ L c ∧ p y = true)) (e1 : ∀ x, (Lit.int .i64 x).wf = true → Maps.has D' (.int .i64 x) = (Maps.has D (.int .i64 x) && p x))
    (e2 : ∀ x z, (Lit.int .i64 x).wf = true → Maps.has D' (.int .i64 x) = true → D'.atKey (.int .i64 x) z = D.atKey (.int .i64 x) z) : MapI w b n L' := by
  have hh : ∀ x, (Lit.int .i64 x).wf = true → Maps.has D' (.int .i64 x) = hasL L' x := fun x hx => by rw [e1 x hx, h2 x hx, hasL_sub h4 p hp]
  refine ⟨D', h1, hh, fun x hx => ?_, h4', fun x hx => ?_⟩
  · rw [cls_sub h4 h4' p hp]
    cases hy : hasL L' x with
    | true => rw [e2 x _ hx (by rw [hh x hx, hy]), h3 x hx]; rfl
    | false => rw [atKey_of_not_has (by rw [hh x hx, hy])]; rfl
  · obtain ⟨c, hc, hm⟩ := mem_keys.1 hx
    exact h5 x (mem_keys.2 ⟨c, hc, ((hp c hc x).1 hm).1⟩)
theorem MapI.del {w : World} {b n : Nat} {L : Nat → List Int} (h : MapI w b n L) {k : Nat} (hk : k < 4) {xs : List Int} {x : Int} (hL : L k = xs ++ [x]) (ty : TypeId) :
    ∃ w', (Builtin.delete_ #[106, 3] ty #[.map (some b), .int .i64 x]).run Try.prog w = .ok (.tuple #[]) w' ∧ MapI w' b n (upd L k xs) ∧ Keep [b] w w' := by
  have hwf := h.wf hk (x := x) (by rw [hL]; simp)
  obtain ⟨D, h1, h2, h3, h4, h5⟩ := h
  obtain ⟨w', hrun, r1, r2⟩ := h1.drop law_int Try.underlying106 (keyOf_int_mk Try.underlying3 hwf) ty
  have hxs : xs = (L k).dropLast := by rw [hL]; simp
  have hnd := h4.row hk
  rw [hL, List.nodup_append] at hnd
  have ho' : Once (upd L k xs) := by rw [hxs]; exact h4.drop k
  have hp : ∀ c, c < 4 → ∀ y, y ∈ upd L k xs c ↔ (y ∈ L c ∧ (!decide (y = x)) = true) := fun c hc y => by
    unfold upd
    split
    · rename_i e; subst e
      rw [hL]
      simp only [List.mem_append, List.mem_singleton, Bool.not_eq_true', decide_eq_false_iff_not]
      constructor
      · intro hy; exact ⟨.inl hy, fun e => hnd.2.2 y hy x (by simp) e⟩
      · rintro ⟨hy | hy, hn⟩
        · exact hy
        · exact absurd hy hn
    · rename_i e
      constructor
      · intro hy
        refine ⟨hy, ?_⟩
        simp only [Bool.not_eq_true', decide_eq_false_iff_not]
        rintro rfl
        exact e (h4.apart hc hk hy (by rw [hL]; simp))
      · exact fun hy => hy.1
  refine ⟨w', hrun, MapI.sub r1 h2 h3 h4 h5 ho' _ hp (fun y hy => ?_) (fun y z hy hh => ?_), Keep.grown (Keep.refl _ _) r2.grown (fun g hg => .inr (by cases hg; simp))⟩
  · by_cases e : y = x
    · subst e; rw [has_del_same]; simp
    · rw [has_del_other (by simpa using e)]; simp [e]
  · by_cases e : y = x
    · subst e; rw [has_del_same] at hh; cases hh
    · rw [atKey_del_other (by simpa using e)]

theorem countP_split {α : Type} (p : α → Bool) (l : List α) : l.length = l.countP p + l.countP (fun x => !p x) := by
  induction l with
  | nil => rfl
  | cons a l ih => simp only [List.length_cons, List.countP_cons, ih]; cases p a <;> simp <;> omega
/-- How many places between two have been met. -/
def metL (L : Nat → List Int) (lo hi : Int) (lft : Lit → Bool) : Nat := (keysL L).countP fun x => btw lo hi x && !lft (.int .i64 x)
theorem countP_one {K : List Int} (hn : K.Nodup) (q r : Int → Bool) {x : Int} (hx : x ∈ K) (hr : r x = true) :
    K.countP (fun y => q y && !(r y && !decide (y = x))) = K.countP (fun y => q y && !r y) + if q x then 1 else 0 := by
  induction K with
  | nil => cases hx
  | cons a K ih =>
    rw [List.nodup_cons] at hn
    simp only [List.countP_cons]
    by_cases e : a = x
    · subst e
      have : K.countP (fun y => q y && !(r y && !decide (y = a))) = K.countP (fun y => q y && !r y) := List.countP_congr (fun y hy => by
        have : y ≠ a := fun e => hn.1 (e ▸ hy)
        simp [this])
      rw [this]
      simp [hr]
    · rw [ih hn.2 (by simpa [Ne.symm e] using hx)]
      simp [e]
      omega
theorem metL_start {L : Nat → List Int} {lo hi : Int} {lft : Lit → Bool} (h : ∀ x ∈ keysL L, lft (.int .i64 x) = true) : metL L lo hi lft = 0 := by
  unfold metL
  rw [List.countP_eq_zero]
  intro x hx
  simp [h x hx]
theorem metL_end {L : Nat → List Int} {lo hi : Int} {lft : Lit → Bool} (h : ∀ kl, lft kl = false) : metL L lo hi lft = total L - total (fun c => left lo hi (L c)) := by
  have hk : keysL (fun c => left lo hi (L c)) = (keysL L).filter fun x => !btw lo hi x := by simp [keysL, left, List.filter_append]
  rw [← keysL_len, ← keysL_len, hk]
  unfold metL
  simp only [h, Bool.not_false, Bool.and_true]
  have := countP_split (fun x => btw lo hi x) (keysL L)
  rw [← List.countP_eq_length_filter]
  omega
theorem metL_step {L : Nat → List Int} (ho : Once L) {lo hi : Int} {lft : Lit → Bool} {x : Int} (hx : hasL L x = true) (hl : lft (.int .i64 x) = true) :
    metL L lo hi (fun z => lft z && !z.sameKey (.int .i64 x)) = metL L lo hi lft + if btw lo hi x then 1 else 0 := by
  have hk : x ∈ keysL L := by rw [hasL_keys] at hx; exact of_decide_eq_true hx
  have hs : ∀ y : Int, (Lit.int .i64 y).sameKey (.int .i64 x) = decide (y = x) := fun y => by
    by_cases e : y = x
    · subst e; rw [WideAt.sameKey_self (by simp [WideAt.IsKeyLit])]; simp
    · rw [sameKey_ne (by simpa using e)]; simp [e]
  unfold metL
  simp only [hs]
  exact countP_one ho (btw lo hi) (fun y => lft (.int .i64 y)) hk hl
end Go.Proofs.Ytgdbccficcgbdaa
