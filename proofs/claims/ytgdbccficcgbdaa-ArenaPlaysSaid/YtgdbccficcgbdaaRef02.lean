/- The contracts of the reference of arena. -/
import Derived.Test.YtgdbccficcgbdaaArena3
namespace Go.Proofs.Ytgdbccficcgbdaa
open Go.RowKit
set_option linter.unusedVariables false
set_option linter.unusedSimpArgs false

theorem ref02_new (n : Int) (m : Nat) (hn : n = m) (h2 : m ≤ 4096) (w : World) :
    Calls Try.prog 26 #[.int .i64 n] w fun e w' => e = .returned (.agg #[.slice (some ⟨w.heap.size + 1, 0, none⟩) m m, .int .u64 0, .int .i64 (-1)]) ∧ Rd w' (.slice (some ⟨w.heap.size + 1, 0, none⟩) m m) m ((List.replicate m 0).map (Value.int .u64)) ∧ Keep [] w w' ∧ w.heap.size + 1 < w'.heap.size := by
  subst hn
  refine calls_abs fun R hR => ?_
  have hmk := fun w => make_u64 m h2 w
  go_enter Try.func26, Try.ntmps26
  go_wp2
  refine bodyPost_ret (v := .agg #[.slice (some ⟨w.heap.size + 1, 0, none⟩) m m, .int .u64 0, .int .i64 (-1)]) (by simp [results, Try.results26, go_sem]) rfl ?_
  refine hR.out _ _ ⟨rfl, ?_, (by repeat (first | (with_reducible exact Keep.refl _ _) | (with_reducible refine Keep.drew ?_) | (with_reducible refine Keep.drewN ?_ _) | (with_reducible refine Keep.alloc ?_ _) | (with_reducible refine Keep.setCell ?_ (by first | (simp; done) | (simp; omega) | (left; dsimp only; omega)) _))), by simp⟩
  refine ⟨_, _, rfl, Nat.le_refl _, by simp only [maxLen]; omega, by simp, by simp [Value.oneCell'], fun a ha i u hu => ?_⟩
  cases ha
  have hadd : (⟨w.heap.size + 1, 0, none⟩ : Addr).add i = ⟨w.heap.size + 1, i, none⟩ := by unfold Addr.add; split <;> simp_all
  rw [hadd, cell_at (alloc_new _ _ _ (by simp)), cellsOf_get]
  rwa [List.getElem?_map] at hu

/-- A place that there is not. -/
theorem ref02_touch_out (ao : Option Addr) (m cap : Nat) (t l n v : Int) (wr : Bool) (w : World) (hm : m ≤ 4096) (h : n < 0 ∨ m ≤ n) :
    Calls Try.prog 27 #[.agg #[.slice ao m cap, .int .u64 t, .int .i64 l], .int .i64 n, .bool wr, .int .u64 v] w fun e w' => e = .returned (.tuple #[.agg #[.slice ao m cap, .int .u64 t, .int .i64 l], .int .u64 0]) ∧ Keep [] w w' := by
  refine calls_abs fun R hR => ?_
  rcases h with h | h
  · go_enter Try.func27, Try.ntmps27
    go_wp2
    refine bodyPost_ret (v := .tuple #[.agg #[.slice ao m cap, .int .u64 t, .int .i64 l], .int .u64 0]) (by simp [results, Try.results27, go_sem]) rfl ?_
    exact hR.out _ _ ⟨rfl, (by repeat (first | (with_reducible exact Keep.refl _ _) | (with_reducible refine Keep.drew ?_) | (with_reducible refine Keep.drewN ?_ _) | (with_reducible refine Keep.alloc ?_ _) | (with_reducible refine Keep.setCell ?_ (by first | (simp; done) | (simp; omega) | (left; dsimp only; omega)) _)))⟩
  · have n1 : ¬ n < 0 := by omega
    go_enter Try.func27, Try.ntmps27
    go_wp2
    refine bodyPost_ret (v := .tuple #[.agg #[.slice ao m cap, .int .u64 t, .int .i64 l], .int .u64 0]) (by simp [results, Try.results27, go_sem]) rfl ?_
    exact hR.out _ _ ⟨rfl, (by repeat (first | (with_reducible exact Keep.refl _ _) | (with_reducible refine Keep.drew ?_) | (with_reducible refine Keep.drewN ?_ _) | (with_reducible refine Keep.alloc ?_ _) | (with_reducible refine Keep.setCell ?_ (by first | (simp; done) | (simp; omega) | (left; dsimp only; omega)) _)))⟩

set_option maxRecDepth 100000 in
/-- A place that there is. -/
theorem ref02_touch (ao : Option Addr) (cap : Nat) (W : List Int) (t l n v : Int) (i : Nat) (hn : n = i) (hi : i < W.length) (wr : Bool) (w : World) (hm : W.length ≤ 4096)
    (hr : Rd w (.slice ao W.length cap) W.length (W.map (Value.int .u64))) :
    Calls Try.prog 27 #[.agg #[.slice ao W.length cap, .int .u64 t, .int .i64 l], .int .i64 n, .bool wr, .int .u64 v] w fun e w' => ∃ ao' cap', e = .returned (.tuple #[.agg #[.slice ao' W.length cap', .int .u64 (IntKind.u64.wrap (t + 1)), .int .i64 i], .int .u64 W[i]]) ∧
      Rd w' (.slice ao' W.length cap') W.length ((if wr then W.set i v else W).map (Value.int .u64)) ∧ Keep [] w w' ∧ (∀ a, ao' = some a → w.heap.size ≤ a.block) := by
  subst hn
  refine calls_abs fun R hR => ?_
  have n1 : ¬ (i : Int) < 0 := by omega
  have n2 : ¬ (W.length : Int) ≤ (i : Int) := by omega
  have n3 : (i : Int) < (W.length : Int) := by omega
  have HR := Lib.hid hr
  clear hr
  cases wr <;>
  · go_enter Try.func27, Try.ntmps27
    go_wp2_with (at_builtin; go_loud (refine wpList_append_nil _ rfl _ _ _ rfl elem_u64 (w.heap.size + 2) rfl _ W.length (W.map (Value.int .u64)) rfl (HR.out.keep (S := []) (by repeat (first | (with_reducible exact Keep.refl _ _) | (with_reducible refine Keep.drew ?_) | (with_reducible refine Keep.drewN ?_ _) | (with_reducible refine Keep.alloc ?_ _) | (with_reducible refine Keep.setCell ?_ (by first | (simp; done) | (simp; omega) | (left; dsimp only; omega)) _))) (by simp)) (by simp) (by simp [maxLen]; omega) (by omega) (by simp) ?_); intro ao' cap' w2 ho hg; obtain ⟨g2, c2, hv, hc1, hc2, hc3, hc4, hc5, hc6⟩ := owns_some ho (by omega); cases hv; have b0 := grown_get hg (b := w.heap.size) (o := .cells #[.slice ao W.length cap, .int .u64 t, .int .i64 l] 51 (0, 0)) (alloc_keeps (alloc_new w _ _ rfl) _) (by simp); have b1 := grown_get hg (b := w.heap.size + 1) (o := .cells #[.slice none 0 0, .int .u64 0, .int .i64 0] 51 (0, 0)) (alloc_new (w.alloc _) _ _ (by simp)) (by simp); have e0 := cell_at b0; have e1 := cell_at b1; have f1 := frozen_at b1; have ci := hc5 i (.int .u64 W[i]) (by simp [hi]); have x1 : ¬ w.heap.size = g2 := (by omega); have x2 : ¬ w.heap.size + 1 = g2 := (by omega); have x3 : ¬ g2 = w.heap.size := (by omega); have x4 : ¬ g2 = w.heap.size + 1 := (by omega); have HO := Lib.hid ho; have HGR := Lib.hid hg; have HB0 := Lib.hid b0; have HB1 := Lib.hid b1; clear ho hg b0 b1 hc5)
    have hk2 : Keep [] w w2 := Keep.grown (S := []) (a := w) (by repeat (first | (with_reducible exact Keep.refl _ _) | (with_reducible refine Keep.drew ?_) | (with_reducible refine Keep.drewN ?_ _) | (with_reducible refine Keep.alloc ?_ _) | (with_reducible refine Keep.setCell ?_ (by first | (simp; done) | (simp; omega) | (left; dsimp only; omega)) _))) HGR.out (by simp)
    have HK2 := Lib.hid hk2; clear hk2
    refine bodyPost_ret (v := .tuple #[.agg #[.slice (some ⟨g2, 0, none⟩) W.length cap', .int .u64 (IntKind.u64.wrap (t + 1)), .int .i64 i], .int .u64 W[i]]) (by simp [results, Try.results27, go_sem, e1, x1, x2, x3, x4]) rfl ?_
    refine hR.out _ _ ⟨_, _, rfl, ?_, (by repeat (first | (with_reducible exact HK2.out) | (with_reducible refine Keep.drew ?_) | (with_reducible refine Keep.drewN ?_ _) | (with_reducible refine Keep.alloc ?_ _) | (with_reducible refine Keep.setCell ?_ (by first | (simp; done) | (simp; omega) | (left; dsimp only; omega)) _))), fun a ha => by cases ha; show w.heap.size ≤ g2; omega⟩
    first
      | (refine Rd.keep (S := [w.heap.size + 1]) (Rd.of_owns HO.out (by simp [Value.oneCell'])) ?_ ?_
         · ((repeat (first | (with_reducible exact Keep.refl _ _) | (with_reducible refine Keep.drew ?_) | (with_reducible refine Keep.drewN ?_ _) | (with_reducible refine Keep.alloc ?_ _) | ((with_reducible refine Keep.setCell ?_ ?_ _); rotate_left; focus (first | (simp; done) | (simp; omega) | (left; dsimp only; omega))))); done)
         · intro g hg hm; simp [Value.ownBlock] at hg; simp at hm; omega)
      | (have hs := (World.ownsRow.stored HO.out i (.int .u64 v)).1
         rw [← List.map_set] at hs
         refine Rd.keep (S := [w.heap.size + 1]) (Rd.of_owns hs (ints_oneCell _ _)) ?_ ?_
         · ((repeat (first | (with_reducible exact Keep.refl _ _) | (with_reducible refine Keep.drew ?_) | (with_reducible refine Keep.drewN ?_ _) | (with_reducible refine Keep.alloc ?_ _) | ((with_reducible refine Keep.setCell ?_ ?_ _); rotate_left; focus (first | (simp; done) | (simp; omega) | (left; dsimp only; omega))))); done)
         · intro g hg hm; simp [Value.ownBlock] at hg; simp at hm; omega)

/-- Touch at whatever place. -/
theorem ref02_touch_any (ao : Option Addr) (cap m : Nat) (W : List Int) (hw : W.length = m) (t l n v : Int) (wr : Bool) (w : World) (hm : m ≤ 4096)
    (hr : Rd w (.slice ao m cap) m (W.map (Value.int .u64))) :
    Calls Try.prog 27 #[.agg #[.slice ao m cap, .int .u64 t, .int .i64 l], .int .i64 n, .bool wr, .int .u64 v] w fun e w' => ∃ ao' cap', e = .returned (.tuple #[.agg #[.slice ao' m cap', .int .u64 (tz m n t), .int .i64 (lz m n l)], .int .u64 (rdz W n)]) ∧
      Rd w' (.slice ao' m cap') m ((if wr then putz W n v else W).map (Value.int .u64)) ∧ Keep [] w w' ∧ (∀ a, ao' = some a → w.heap.size ≤ a.block ∨ ao = some a) := by
  subst hw
  cases hi : inr W.length n with
  | true =>
    obtain ⟨i, rfl, hlt⟩ := inr_true hi
    refine (ref02_touch ao cap W t l i v i rfl hlt wr w hm hr).mono ?_
    rintro e w' ⟨ao', cap', rfl, h2, h3, h4⟩
    exact ⟨ao', cap', by simp [tz, lz, hi, rdz_nat hlt], by cases wr <;> simpa [putz_nat hlt] using h2, h3, fun a ha => .inl (h4 a ha)⟩
  | false =>
    refine (ref02_touch_out ao W.length cap t l n v wr w hm (inr_false hi)).mono ?_
    rintro e w' ⟨rfl, h3⟩
    refine ⟨ao, cap, by simp [tz, lz, hi, rdz_out hi], ?_, h3, fun a ha => .inr ha⟩
    have : (if wr then putz W n v else W) = W := by cases wr <;> simp [putz, hi]
    rw [this]
    exact hr.keep h3 (by simp)
end Go.Proofs.Ytgdbccficcgbdaa
