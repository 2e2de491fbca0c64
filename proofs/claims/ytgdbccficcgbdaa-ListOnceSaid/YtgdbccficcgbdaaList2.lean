/- The contract of list.Has. -/
import Derived.Test.YtgdbccficcgbdaaList
namespace Go.Proofs.Ytgdbccficcgbdaa
open Go.RowKit Go.Shelf
attribute [local go_sem] Oper.semAt_some
set_option linter.unusedVariables false
set_option linter.unusedSimpArgs false

theorem cell_new_l (W : World) (v : Value) (t : TypeId) : (W.alloc (.cells #[v] t)).cell? ⟨W.heap.size, 0, none⟩ = some v ∧ (W.alloc (.cells #[v] t)).frozen? ⟨W.heap.size, 0, none⟩ = false :=
  ⟨cell_at (alloc_new W (.cells #[v] t) _ rfl) 0, frozen_at (alloc_new W (.cells #[v] t) _ rfl) 0⟩
theorem cell_alloc_l {W : World} {a : Addr} {v : Value} (o : Obj) (h : W.cell? a = some v) : (W.alloc o).cell? a = some v := cell_kept h (World.grownBy_alloc W o none) (fun r e => by cases e)
theorem frozen_alloc_l {W : World} {a : Addr} {v : Value} (o : Obj) (h : W.cell? a = some v) (hf : W.frozen? a = false) : (W.alloc o).frozen? a = false := (frozen_kept h (World.grownBy_alloc W o none) (fun r e => by cases e)).trans hf

/-- Is a place in any row? -/
def hasL (L : Nat → List Int) (x : Int) : Bool := (List.range 4).any fun c => decide (x ∈ L c)

set_option maxRecDepth 100000 in
set_option maxHeartbeats 4000000 in
theorem list_has {w : World} {b : Nat} {V : Nat → Value} {L : Nat → List Int} (h : Lst w b V L) (x : Int) :
    Calls Try.prog 61 #[.pointer (some ⟨b, 0, none⟩), .int .i64 x] w fun e w' => e = .returned (.bool (hasL L x)) ∧ Keep [] w w' := by
  refine (callsIn_wide (n := 8)).1 ?_
  have H := Lib.hid h
  clear h
  refine callsIn_of_wp_marks Try.func61 rfl trivial ?_ rfl
  simp only [Try.ntmps61, List.size_toArray, List.length_cons, List.length_nil, Nat.reduceAdd, Nat.reduceSub, Array.replicate_succ, Array.replicate_zero, List.push_toArray, List.append_toArray, List.nil_append, List.cons_append]
  gi_wp2
  refine ⟨trivial, ?_⟩
  refine (callsIn_wide.2 (list_each _ _)).mono ?_
  rintro e w' ⟨rfl, rfl⟩
  gi_wp2
  have c0 := cell_new_l w (.int .i64 x) 3
  have c1 := cell_new_l (w.alloc (.cells #[.int .i64 x] 3)) (.bool false) 4
  simp only [World.size_alloc] at c1
  have mixed : Try.prog.follows .mixedOrders = true := by kernel_rfl
  have hB0 : Below w.heap.size w (((w.alloc (.cells #[.int .i64 x] 3)).alloc (.cells #[.bool false] 4)).alloc (.cells #[.pointer (some ⟨b, 0, none⟩)] 89)) := (((Below.refl _ w).alloc (Nat.le_refl _) _).alloc (by simp) _).alloc (by simp; omega) _
  refine wpIn_rangeFunc_ownF rfl (by omega) (gf := 80) (lb := #[.pointer (some ⟨w.heap.size + 1 + 1, 0, none⟩)]) rfl trivial (enters_of Try.func80 (by kernel_rfl) rfl)
    (each_stops 7 b (w.heap.size + 1 + 1) (by omega) _ (alloc_new _ _ _ (by simp))) (fun h k e => k (h e)) (fun W l o o' hl h1 h2 h3 e => cell_kept e (grownBy_putObj' W l o') (fun r e' => by cases e'; exact ⟨o, h1, h2⟩)) (Below.refl _ _) (fun _ => rfl)
    (fun pre W => ((∀ c ∈ pre, x ∉ L c.1) ∧ W.cell? ⟨w.heap.size, 0, none⟩ = some (.int .i64 x) ∧ W.cell? ⟨w.heap.size + 1, 0, none⟩ = some (.bool false) ∧ W.frozen? ⟨w.heap.size + 1, 0, none⟩ = false) ∧ Below w.heap.size w W)
    (fun c pre W => (c = .ret ∧ (∃ c ∈ pre, x ∈ L c.1) ∧ W.cell? ⟨w.heap.size + 1, 0, none⟩ = some (.bool true)) ∧ Below w.heap.size w W)
    (OwnFrom.and (Own.from (fun s A B row hs hg hr => ⟨hs.1, cell_kept hs.2.1 hg hr, cell_kept hs.2.2.1 hg hr, (frozen_kept hs.2.2.1 hg hr).trans hs.2.2.2⟩) _) (ownFrom_below (Nat.le_refl _) (by simp; omega)))
    (fun c => OwnFrom.and (Own.from (fun s A B row hs hg hr => ⟨hs.1, hs.2.1, cell_kept hs.2.2 hg hr⟩) _) (ownFrom_below (Nat.le_refl _) (by simp; omega)))
    ⟨⟨by simp, cell_alloc_l _ (cell_alloc_l _ c0.1), cell_alloc_l _ c1.1, frozen_alloc_l _ c1.1 c1.2⟩, hB0⟩
    (fun c => { tmps := #[.pointer (some ⟨b, 0, none⟩), .int .i64 x, undef, .pointer (some ⟨w.heap.size, 0, none⟩), .pointer (some ⟨w.heap.size + 1, 0, none⟩), .pointer (some ⟨b, c.1, none⟩), .pointer (some ⟨b, 0, none⟩), .func (.func 80) #[] #[.pointer (some ⟨w.heap.size + 1 + 1, 0, none⟩)], .pointer (some ⟨b, c.1, none⟩), undef, undef, undef, undef, undef], defers := [] }) ?assign ?body ?done ?stop
  case assign =>
    intro l x W K hK
    gi_wp2
    exact hK
  case body =>
    rintro l pre ⟨c, hc4⟩ W ⟨⟨hp, hcx, hcr, hfr⟩, hB⟩ _
    have HL := H.out.keep (Keep.of_below hB) (fun _ _ => by simp)
    have hcell := HL.cell c hc4
    have hrd := Rd.of_owns (HL.rows c hc4) (by simp [ints, Value.oneCell'])
    obtain ⟨ao, cap, hv, hcap, hmax⟩ := hrd.shape
    rw [hv] at hcell hrd
    have HRD := Lib.hid hrd
    clear hrd
    dsimp only
    by_cases hin : x ∈ L c
    · gi_wp2
      gi_region_with_o (refine ⟨trivial, ?_⟩; gi_at_call 78; refine (CallsIn.inRound l (callsIn_wide.2 (slices_contains (HRD.out.keep (S := []) (by repeat (first | (with_reducible exact Keep.refl _ _) | (with_reducible refine Keep.drew ?_) | (with_reducible refine Keep.drewN ?_ _) | (with_reducible refine Keep.alloc ?_ _) | (with_reducible refine Keep.setCell ?_ (by first | (simp; done) | (simp; omega) | (left; dsimp only; omega)) _))) (fun _ _ => by simp)) rfl x))).mono ?_; rintro e w' ⟨rfl, rfl⟩)
      all_goals gi_wp2
      all_goals (exact ⟨(KeepsOthers.drew W).trans (KeepsOthers.setCell _ _ _), ⟨rfl, ⟨⟨c, hc4⟩, by simp, hin⟩, World.cell?_setCell_same' _ _ _ (by rw [hcr]; rfl)⟩, hB.drew.setCell (p := ⟨w.heap.size + 1, 0, none⟩) (by simp) _⟩)
    · gi_wp2
      gi_region_with_o (refine ⟨trivial, ?_⟩; gi_at_call 78; refine (CallsIn.inRound l (callsIn_wide.2 (slices_contains (HRD.out.keep (S := []) (by repeat (first | (with_reducible exact Keep.refl _ _) | (with_reducible refine Keep.drew ?_) | (with_reducible refine Keep.drewN ?_ _) | (with_reducible refine Keep.alloc ?_ _) | (with_reducible refine Keep.setCell ?_ (by first | (simp; done) | (simp; omega) | (left; dsimp only; omega)) _))) (fun _ _ => by simp)) rfl x))).mono ?_; rintro e w' ⟨rfl, rfl⟩)
      all_goals gi_wp2
      all_goals (exact ⟨KeepsOthers.drew W, fun e => e, ⟨fun c' hc' => (List.mem_append.1 hc').elim (hp c') (fun e => by simp at e; subst e; exact hin), hcx, hcr, hfr⟩, hB.drew⟩)
  case done =>
    rintro D ys W hD hys ⟨⟨hne, _, hcr, hfr⟩, hB⟩ hK
    gi_wp2
    have hK' := (KeepsOthers.setCell W ⟨w.heap.size + 1, 0, none⟩ (.bool false)).same D _ hK rfl
    refine ⟨by simp, .inl ⟨_, _, rfl, run_takeDeferred hK', ?_⟩⟩
    have hc5 := cell_kept (World.cell?_setCell_same' W ⟨w.heap.size + 1, 0, none⟩ (.bool false) (by rw [hcr]; rfl)) (grownBy_putObj' _ D (.deferred none)) (fun r e => by cases e; exact ⟨_, hK', rfl⟩)
    refine ⟨.bool false, ?_, ?_, Keep.of_below ((hB.setCell (p := ⟨w.heap.size + 1, 0, none⟩) (by simp) _).trans (belowK_b (w := w) (Nat.le_refl _) _ D _ _ (by simp at hD; omega) hK' rfl rfl))⟩
    · simp [results, Try.f61, go_sem, hc5]
    · have : hasL L x = false := by
        rw [hasL, List.any_eq_false]
        intro c hc
        have h4 : c ∈ ys.map (·.1) := by rw [hys]; exact hc
        obtain ⟨c', hc', rfl⟩ := List.mem_map.1 h4
        simpa using hne c' hc'
      rw [this]
  case stop =>
    rintro D c pre W hD hpre ⟨⟨rfl, hin, hcr⟩, hB⟩ hK
    gi_wp2
    refine ⟨by simp, .inl ⟨_, _, rfl, run_takeDeferred hK, ?_⟩⟩
    have hc5 := cell_kept hcr (grownBy_putObj' _ D (.deferred none)) (fun r e => by cases e; exact ⟨_, hK, rfl⟩)
    refine ⟨.bool true, ?_, ?_, Keep.of_below (hB.trans (belowK_b (w := w) (Nat.le_refl _) W D _ _ (by simp at hD; omega) hK rfl rfl))⟩
    · simp [results, Try.f61, go_sem, hc5]
    · have : hasL L x = true := by
        rw [hasL, List.any_eq_true]
        obtain ⟨c, hc, hx⟩ := hin
        exact ⟨c.1, by simpa using c.2, by simpa using hx⟩
      rw [this]

set_option maxRecDepth 100000 in
set_option maxHeartbeats 4000000 in
theorem list_has_nil (x : Int) (w : World) :
    Calls Try.prog 61 #[.pointer none, .int .i64 x] w fun e w' => e = .returned (.bool false) ∧ Keep [] w w' := by
  refine (callsIn_wide (n := 8)).1 ?_
  refine callsIn_of_wp_marks Try.func61 rfl trivial ?_ rfl
  simp only [Try.ntmps61, List.size_toArray, List.length_cons, List.length_nil, Nat.reduceAdd, Nat.reduceSub, Array.replicate_succ, Array.replicate_zero, List.push_toArray, List.append_toArray, List.nil_append, List.cons_append]
  gi_wp2
  refine ⟨trivial, ?_⟩
  refine (callsIn_wide.2 (list_each _ _)).mono ?_
  rintro e w' ⟨rfl, rfl⟩
  gi_wp2
  have c1 := cell_new_l (w.alloc (.cells #[.int .i64 x] 3)) (.bool false) 4
  simp only [World.size_alloc] at c1
  have hB0 : Below w.heap.size w (((w.alloc (.cells #[.int .i64 x] 3)).alloc (.cells #[.bool false] 4)).alloc (.cells #[.pointer none] 89)) := (((Below.refl _ w).alloc (Nat.le_refl _) _).alloc (by simp) _).alloc (by simp; omega) _
  refine wpIn_rangeFunc_ownF (α := Cls) rfl (by omega) (gf := 80) (lb := #[.pointer (some ⟨w.heap.size + 1 + 1, 0, none⟩)]) rfl trivial (enters_of Try.func80 (by kernel_rfl) rfl)
    (each_stops_nil 7 (w.heap.size + 1 + 1) (by omega) _ (alloc_new _ _ _ (by simp))) (fun h k e => k (h e)) (fun W l o o' hl h1 h2 h3 e => cell_kept e (grownBy_putObj' W l o') (fun r e' => by cases e'; exact ⟨o, h1, h2⟩)) (Below.refl _ _) (fun _ => rfl)
    (fun pre W => (W.cell? ⟨w.heap.size + 1, 0, none⟩ = some (.bool false) ∧ W.frozen? ⟨w.heap.size + 1, 0, none⟩ = false) ∧ Below w.heap.size w W)
    (fun _ _ _ => False)
    (OwnFrom.and (Own.from (fun s A B row hs hg hr => ⟨cell_kept hs.1 hg hr, (frozen_kept hs.1 hg hr).trans hs.2⟩) _) (ownFrom_below (Nat.le_refl _) (by simp; omega)))
    (fun _ _ _ _ _ hs _ _ => hs)
    ⟨⟨cell_alloc_l _ c1.1, frozen_alloc_l _ c1.1 c1.2⟩, hB0⟩
    (fun c => { tmps := #[.pointer none, .int .i64 x, undef, .pointer (some ⟨w.heap.size, 0, none⟩), .pointer (some ⟨w.heap.size + 1, 0, none⟩), .pointer none, .pointer none, .func (.func 80) #[] #[.pointer (some ⟨w.heap.size + 1 + 1, 0, none⟩)], .pointer none, undef, undef, undef, undef, undef], defers := [] }) ?assign ?body ?done ?stop
  case assign =>
    intro l x W K hK
    gi_wp2
    exact hK
  case body =>
    intro l pre c W _ hlt
    exact absurd hlt (by omega)
  case done =>
    rintro D ys W hD hys ⟨⟨hcr, hfr⟩, hB⟩ hK
    gi_wp2
    have hK' := (KeepsOthers.setCell W ⟨w.heap.size + 1, 0, none⟩ (.bool false)).same D _ hK rfl
    refine ⟨by simp, .inl ⟨_, _, rfl, run_takeDeferred hK', ?_⟩⟩
    have hc5 := cell_kept (World.cell?_setCell_same' W ⟨w.heap.size + 1, 0, none⟩ (.bool false) (by rw [hcr]; rfl)) (grownBy_putObj' _ D (.deferred none)) (fun r e => by cases e; exact ⟨_, hK', rfl⟩)
    refine ⟨.bool false, ?_, rfl, Keep.of_below ((hB.setCell (p := ⟨w.heap.size + 1, 0, none⟩) (by simp) _).trans (belowK_b (w := w) (Nat.le_refl _) _ D _ _ (by simp at hD; omega) hK' rfl rfl))⟩
    simp [results, Try.f61, go_sem, hc5]
  case stop =>
    rintro D c pre W hD hpre h hK
    exact h.elim
end Go.Proofs.Ytgdbccficcgbdaa
