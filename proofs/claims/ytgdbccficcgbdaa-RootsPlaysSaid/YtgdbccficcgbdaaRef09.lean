/- The contracts of the reference of roots. -/
import Derived.Test.YtgdbccficcgbdaaRoots
import Derived.Deep.RegionHeld3
import Derived.Deep.DrawnRows
import Derived.StillTailTactics
namespace Go.Proofs.Ytgdbccficcgbdaa
open Go.RowKit
attribute [local go_sem ↓] Go.wp_at_zero Go.wp_at_succ
set_option linter.unusedVariables false
set_option linter.unusedSimpArgs false

def R9 (w : World) (a1 : Option Addr) (c1 : Nat) (a2 : Option Addr) (c2 n m : Nat) (S K : List Int) : Prop :=
  S.length = n ∧ K.length = m ∧ Rd w (.slice a1 n c1) n (S.map (Value.int .i64)) ∧ Rd w (.slice a2 m c2) m (K.map (Value.int .i64))

theorem R9.keep {w w' : World} {a1 : Option Addr} {c1 : Nat} {a2 : Option Addr} {c2 n m : Nat} {S K : List Int} (h : R9 w a1 c1 a2 c2 n m S K) (k : Keep [] w w') : R9 w' a1 c1 a2 c2 n m S K :=
  ⟨h.1, h.2.1, h.2.2.1.keep k (by simp), h.2.2.2.keep k (by simp)⟩

theorem ref09_new (n : Int) (m : Nat) (hn : n = m) (h2 : m ≤ 4096) (w : World) :
    Calls Try.prog 45 #[.int .i64 n] w fun e w' => ∃ a1 c1, e = .returned (.agg #[.slice a1 m c1, .slice none 0 0]) ∧ R9 w' a1 c1 none 0 m 0 (List.replicate m 0) [] ∧ Keep [] w w' ∧ (∀ a, a1 = some a → w.heap.size ≤ a.block) := by
  subst hn
  refine calls_abs fun R hR => ?_
  have hmk := fun w => make_int m h2 w
  go_enter Try.func45, Try.ntmps45
  go_wp2
  refine bodyPost_ret (v := .agg #[.slice (some ⟨w.heap.size + 1, 0, none⟩) m m, .slice none 0 0]) (by simp [results, Try.results45, go_sem]) rfl ?_
  refine hR.out _ _ ⟨_, _, rfl, ⟨by simp, rfl, ?_, Rd.nil _⟩, (by repeat (first | (with_reducible exact Keep.refl _ _) | (with_reducible refine Keep.drew ?_) | (with_reducible refine Keep.drewN ?_ _) | (with_reducible refine Keep.alloc ?_ _) | (with_reducible refine Keep.setCell ?_ (by first | (simp; done) | (simp; omega) | (left; dsimp only; omega)) _))), fun a ha => by cases ha; simp⟩
  refine ⟨_, _, rfl, Nat.le_refl _, by simp only [maxLen]; omega, by simp, by simp [Value.oneCell'], fun a ha i u hu => ?_⟩
  cases ha
  have hadd : (⟨w.heap.size + 1, 0, none⟩ : Addr).add i = ⟨w.heap.size + 1, i, none⟩ := by unfold Addr.add; split <;> simp_all
  rw [hadd, cell_at (alloc_new _ _ _ (by simp))]
  rw [List.map_replicate, List.getElem?_replicate] at hu
  first
    | (rw [List.getElem?_toArray, List.getElem?_replicate]; exact hu)
    | (rw [Array.getElem?_replicate]; exact hu)

set_option maxRecDepth 100000 in
theorem ref09_with (n : Int) (i : Nat) (hn : n = i) (x : Int) {a1 a2 : Option Addr} {c1 c2 k m : Nat} {S K : List Int} (hi : i < k) (hk : k ≤ 4096) (w : World) (h : R9 w a1 c1 a2 c2 k m S K) :
    Calls Try.prog 73 #[.agg #[.slice a1 k c1, .slice a2 m c2], .int .i64 n, .int .i64 x] w fun e w' => ∃ a1' c1', e = .returned (.agg #[.slice a1' k c1', .slice a2 m c2]) ∧ R9 w' a1' c1' a2 c2 k m (S.set i x) K ∧ Keep [] w w' ∧ (∀ a, a1' = some a → w.heap.size ≤ a.block) := by
  subst hn
  refine calls_abs fun R hR => ?_
  obtain ⟨hS, hK, hr, hr2⟩ := h
  have n1 : ¬ (i : Int) < 0 := by omega
  have n2 : (0 : Int) ≤ (i : Int) := by omega
  have n3 : (i : Int) < (k : Int) := by omega
  have hSi : i < S.length := by omega
  have HR := Lib.hid hr
  have HR2 := Lib.hid hr2
  have HS := Lib.hid hS
  have HKK := Lib.hid hK
  clear hr hr2 hK hS
  go_enter Try.func73, Try.ntmps73
  go_wp2_with (at_builtin; go_loud (refine wpList_append_nil _ rfl _ _ _ rfl elem_int (w.heap.size + 2) rfl _ k (S.map (Value.int .i64)) rfl (HR.out.keep (S := []) (by repeat (first | (with_reducible exact Keep.refl _ _) | (with_reducible refine Keep.drew ?_) | (with_reducible refine Keep.drewN ?_ _) | (with_reducible refine Keep.alloc ?_ _) | (with_reducible refine Keep.setCell ?_ (by first | (simp; done) | (simp; omega) | (left; dsimp only; omega)) _))) (by simp)) (by simp [HS.out]) (by simp [maxLen]; omega) (by omega) (by simp) ?_); intro ao' cap' w2 ho hg; obtain ⟨g2, c3, hv, hc1, hc2, hc3, hc4, hc5, hc6⟩ := owns_some ho (by omega); cases hv; have b0 := grown_get hg (b := w.heap.size) (o := .cells #[.slice a1 k c1, .slice a2 m c2] 79 (0, 0)) (alloc_keeps (alloc_new w _ _ rfl) _) (by simp); have b1 := grown_get hg (b := w.heap.size + 1) (o := .cells #[.slice none 0 0, .slice none 0 0] 79 (0, 0)) (alloc_new (w.alloc _) _ _ (by simp)) (by simp); have e0 := cell_at b0; have e1 := cell_at b1; have f1 := frozen_at b1; have ci := hc5 i (.int .i64 S[i]) (by simp [hSi]); have x1 : ¬ w.heap.size = g2 := (by omega); have x2 : ¬ w.heap.size + 1 = g2 := (by omega); have x3 : ¬ g2 = w.heap.size := (by omega); have x4 : ¬ g2 = w.heap.size + 1 := (by omega); have HO := Lib.hid ho; have HGR := Lib.hid hg; have HB0 := Lib.hid b0; have HB1 := Lib.hid b1; clear ho hg b0 b1 hc5)
  have hk2 : Keep [] w w2 := Keep.grown (S := []) (a := w) (by repeat (first | (with_reducible exact Keep.refl _ _) | (with_reducible refine Keep.drew ?_) | (with_reducible refine Keep.drewN ?_ _) | (with_reducible refine Keep.alloc ?_ _) | (with_reducible refine Keep.setCell ?_ (by first | (simp; done) | (simp; omega) | (left; dsimp only; omega)) _))) HGR.out (by simp)
  have HK2 := Lib.hid hk2; clear hk2
  refine bodyPost_ret (v := .agg #[.slice (some ⟨g2, 0, none⟩) k cap', .slice a2 m c2]) (by simp [results, Try.results73, go_sem, e1, x1, x2, x3, x4]) rfl ?_
  have hs := (World.ownsRow.stored HO.out i (.int .i64 x)).1
  rw [← List.map_set] at hs
  have HSt := Lib.hid hs
  clear hs
  refine hR.out _ _ ⟨_, _, rfl, ⟨by simp [HS.out], HKK.out, ?_, HR2.out.keep (S := []) ?_ (by simp)⟩, ?_, fun a ha => by cases ha; show w.heap.size ≤ g2; omega⟩
  · refine Rd.keep (S := [w.heap.size + 1]) (Rd.of_owns HSt.out (ints_oneCell _ _)) ?_ ?_
    · ((repeat (first | (with_reducible exact Keep.refl _ _) | (with_reducible refine Keep.drew ?_) | (with_reducible refine Keep.drewN ?_ _) | (with_reducible refine Keep.alloc ?_ _) | ((with_reducible refine Keep.setCell ?_ ?_ _); rotate_left; focus (first | (simp; done) | (simp; omega) | (left; dsimp only; omega))))); done)
    · intro g hg hm; simp [Value.ownBlock] at hg; simp at hm; omega
  · exact (by repeat (first | (with_reducible exact HK2.out) | (with_reducible refine Keep.drew ?_) | (with_reducible refine Keep.drewN ?_ _) | (with_reducible refine Keep.alloc ?_ _) | (with_reducible refine Keep.setCell ?_ (by first | (simp; done) | (simp; omega) | (left; dsimp only; omega)) _)))
  · exact (by repeat (first | (with_reducible exact HK2.out) | (with_reducible refine Keep.drew ?_) | (with_reducible refine Keep.drewN ?_ _) | (with_reducible refine Keep.alloc ?_ _) | (with_reducible refine Keep.setCell ?_ (by first | (simp; done) | (simp; omega) | (left; dsimp only; omega)) _)))

theorem ref09_set_bad (n x : Int) {a1 a2 : Option Addr} {c1 c2 k m : Nat} {S K : List Int} (hi : n < 0 ∨ k ≤ n ∨ x < 0) (hk : k ≤ 4096) (w : World) :
    Calls Try.prog 48 #[.agg #[.slice a1 k c1, .slice a2 m c2], .int .i64 n, .int .i64 x] w fun e w' => e = .returned (.tuple #[.agg #[.slice a1 k c1, .slice a2 m c2], .int .i64 2]) ∧ Keep [] w w' := by
  refine calls_abs fun R hR => ?_
  by_cases h1 : n < 0
  · go_enter Try.func48, Try.ntmps48
    go_wp2
    refine bodyPost_ret (v := .tuple #[.agg #[.slice a1 k c1, .slice a2 m c2], .int .i64 2]) (by simp [results, Try.results48, go_sem]) rfl ?_
    exact hR.out _ _ ⟨rfl, (by repeat (first | (with_reducible exact Keep.refl _ _) | (with_reducible refine Keep.drew ?_) | (with_reducible refine Keep.drewN ?_ _) | (with_reducible refine Keep.alloc ?_ _) | (with_reducible refine Keep.setCell ?_ (by first | (simp; done) | (simp; omega) | (left; dsimp only; omega)) _)))⟩
  by_cases h2 : k ≤ n
  · go_enter Try.func48, Try.ntmps48
    go_wp2
    refine bodyPost_ret (v := .tuple #[.agg #[.slice a1 k c1, .slice a2 m c2], .int .i64 2]) (by simp [results, Try.results48, go_sem]) rfl ?_
    exact hR.out _ _ ⟨rfl, (by repeat (first | (with_reducible exact Keep.refl _ _) | (with_reducible refine Keep.drew ?_) | (with_reducible refine Keep.drewN ?_ _) | (with_reducible refine Keep.alloc ?_ _) | (with_reducible refine Keep.setCell ?_ (by first | (simp; done) | (simp; omega) | (left; dsimp only; omega)) _)))⟩
  have h3 : x < 0 := by omega
  clear hi
  go_enter Try.func48, Try.ntmps48
  go_wp2
  refine bodyPost_ret (v := .tuple #[.agg #[.slice a1 k c1, .slice a2 m c2], .int .i64 2]) (by simp [results, Try.results48, go_sem]) rfl ?_
  exact hR.out _ _ ⟨rfl, (by repeat (first | (with_reducible exact Keep.refl _ _) | (with_reducible refine Keep.drew ?_) | (with_reducible refine Keep.drewN ?_ _) | (with_reducible refine Keep.alloc ?_ _) | (with_reducible refine Keep.setCell ?_ (by first | (simp; done) | (simp; omega) | (left; dsimp only; omega)) _)))⟩

set_option maxRecDepth 100000 in
theorem ref09_set (n : Int) (i : Nat) (hn : n = i) (x : Int) (hx : 0 ≤ x) {a1 a2 : Option Addr} {c1 c2 k m : Nat} {S K : List Int} (hi : i < k) (hk : k ≤ 4096) (w : World) (h : R9 w a1 c1 a2 c2 k m S K) :
    Calls Try.prog 48 #[.agg #[.slice a1 k c1, .slice a2 m c2], .int .i64 n, .int .i64 x] w fun e w' => ∃ a1' c1', e = .returned (.tuple #[.agg #[.slice a1' k c1', .slice a2 m c2], .int .i64 0]) ∧ R9 w' a1' c1' a2 c2 k m (S.set i x) K ∧ Keep [] w w' ∧ (∀ a, a1' = some a → w.heap.size ≤ a.block) := by
  subst hn
  refine calls_abs fun R hR => ?_
  have n1 : ¬ (i : Int) < 0 := by omega
  have n2 : ¬ (k : Int) ≤ (i : Int) := by omega
  have n3 : ¬ x < 0 := by omega
  have HH := Lib.hid h
  have HI := Lib.hid hi
  have HKK := Lib.hid hk
  clear h hi hk
  go_enter Try.func48, Try.ntmps48
  go_wp2_with fail
  refine Calls.mono (ref09_with i i rfl x HI.out HKK.out _ (HH.out.keep (by repeat (first | (with_reducible exact Keep.refl _ _) | (with_reducible refine Keep.drew ?_) | (with_reducible refine Keep.drewN ?_ _) | (with_reducible refine Keep.alloc ?_ _) | (with_reducible refine Keep.setCell ?_ (by first | (simp; done) | (simp; omega) | (left; dsimp only; omega)) _))))) ?_
  rintro e w' ⟨a1', c1', rfl, H2, K2, F2⟩
  have b1 := K2.get (b := w.heap.size + 1) (o := .cells #[.slice none 0 0, .slice none 0 0] 79 (0, 0)) (alloc_new (w.alloc _) _ _ (by simp)) (by simp)
  have e1 := cell_at b1
  have f1 := frozen_at b1
  have K3 : Keep [] w w' := Keep.trans (by repeat (first | (with_reducible exact Keep.refl _ _) | (with_reducible refine Keep.drew ?_) | (with_reducible refine Keep.drewN ?_ _) | (with_reducible refine Keep.alloc ?_ _) | (with_reducible refine Keep.setCell ?_ (by first | (simp; done) | (simp; omega) | (left; dsimp only; omega)) _))) K2
  have HK3 := Lib.hid K3
  have HH2 := Lib.hid H2
  clear K2 K3 H2
  go_wp2_with fail
  refine bodyPost_ret (v := .tuple #[.agg #[.slice a1' k c1', .slice a2 m c2], .int .i64 0]) (by simp [results, Try.results48, go_sem, e1]) rfl ?_
  refine hR.out _ _ ⟨_, _, rfl, ⟨HH2.out.1, HH2.out.2.1, HH2.out.2.2.1.keep (S := [w.heap.size + 1]) ?_ ?_, HH.out.2.2.2.keep (S := []) ?_ (by simp)⟩, ?_, fun a ha => by have := F2 a ha; simp at this; omega⟩
  · ((repeat (first | (with_reducible exact Keep.refl _ _) | (with_reducible refine Keep.drew ?_) | (with_reducible refine Keep.drewN ?_ _) | (with_reducible refine Keep.alloc ?_ _) | ((with_reducible refine Keep.setCell ?_ ?_ _); rotate_left; focus (first | (simp; done) | (simp; omega) | (left; dsimp only; omega))))); done)
  · intro g hg hm; rcases a1' with _ | a <;> simp [Value.ownBlock] at hg; have := F2 _ rfl; simp at this; simp at hm; omega
  · exact (by repeat (first | (with_reducible exact HK3.out) | (with_reducible refine Keep.drew ?_) | (with_reducible refine Keep.drewN ?_ _) | (with_reducible refine Keep.alloc ?_ _) | (with_reducible refine Keep.setCell ?_ (by first | (simp; done) | (simp; omega) | (left; dsimp only; omega)) _)))
  · exact (by repeat (first | (with_reducible exact HK3.out) | (with_reducible refine Keep.drew ?_) | (with_reducible refine Keep.drewN ?_ _) | (with_reducible refine Keep.alloc ?_ _) | (with_reducible refine Keep.setCell ?_ (by first | (simp; done) | (simp; omega) | (left; dsimp only; omega)) _)))

theorem ref09_push_bad (n : Int) {a1 a2 : Option Addr} {c1 c2 k m : Nat} (hi : n < 0 ∨ k ≤ n) (hk : k ≤ 4096) (w : World) :
    Calls Try.prog 46 #[.agg #[.slice a1 k c1, .slice a2 m c2], .int .i64 n] w fun e w' => e = .returned (.tuple #[.agg #[.slice a1 k c1, .slice a2 m c2], .int .i64 2]) ∧ Keep [] w w' := by
  refine calls_abs fun R hR => ?_
  by_cases h1 : n < 0
  · go_enter Try.func46, Try.ntmps46
    go_wp2
    refine bodyPost_ret (v := .tuple #[.agg #[.slice a1 k c1, .slice a2 m c2], .int .i64 2]) (by simp [results, Try.results46, go_sem]) rfl ?_
    exact hR.out _ _ ⟨rfl, (by repeat (first | (with_reducible exact Keep.refl _ _) | (with_reducible refine Keep.drew ?_) | (with_reducible refine Keep.drewN ?_ _) | (with_reducible refine Keep.alloc ?_ _) | (with_reducible refine Keep.setCell ?_ (by first | (simp; done) | (simp; omega) | (left; dsimp only; omega)) _)))⟩
  have h2 : k ≤ n := by omega
  clear hi
  go_enter Try.func46, Try.ntmps46
  go_wp2
  refine bodyPost_ret (v := .tuple #[.agg #[.slice a1 k c1, .slice a2 m c2], .int .i64 2]) (by simp [results, Try.results46, go_sem]) rfl ?_
  exact hR.out _ _ ⟨rfl, (by repeat (first | (with_reducible exact Keep.refl _ _) | (with_reducible refine Keep.drew ?_) | (with_reducible refine Keep.drewN ?_ _) | (with_reducible refine Keep.alloc ?_ _) | (with_reducible refine Keep.setCell ?_ (by first | (simp; done) | (simp; omega) | (left; dsimp only; omega)) _)))⟩

theorem ref09_push_full (n : Int) {a1 a2 : Option Addr} {c1 c2 k m : Nat} (h1 : ¬ n < 0) (h2 : ¬ k ≤ n) (hm : m = 16) (w : World) :
    Calls Try.prog 46 #[.agg #[.slice a1 k c1, .slice a2 m c2], .int .i64 n] w fun e w' => e = .returned (.tuple #[.agg #[.slice a1 k c1, .slice a2 m c2], .int .i64 4]) ∧ Keep [] w w' := by
  subst hm
  refine calls_abs fun R hR => ?_
  go_enter Try.func46, Try.ntmps46
  go_wp2
  refine bodyPost_ret (v := .tuple #[.agg #[.slice a1 k c1, .slice a2 16 c2], .int .i64 4]) (by simp [results, Try.results46, go_sem]) rfl ?_
  exact hR.out _ _ ⟨rfl, (by repeat (first | (with_reducible exact Keep.refl _ _) | (with_reducible refine Keep.drew ?_) | (with_reducible refine Keep.drewN ?_ _) | (with_reducible refine Keep.alloc ?_ _) | (with_reducible refine Keep.setCell ?_ (by first | (simp; done) | (simp; omega) | (left; dsimp only; omega)) _)))⟩

set_option maxHeartbeats 1000000 in
theorem ref09_push (n : Int) (i : Nat) (hn : n = i) {a1 a2 : Option Addr} {c1 c2 k m : Nat} {S K : List Int} (hi : i < k) (hk : k ≤ 4096) (hm : m < 16) (w : World) (h : R9 w a1 c1 a2 c2 k m S K) (hiS : i < S.length) :
    Calls Try.prog 46 #[.agg #[.slice a1 k c1, .slice a2 m c2], .int .i64 n] w fun e w' => ∃ a2' c2', e = .returned (.tuple #[.agg #[.slice a1 k c1, .slice a2' (m + 1) c2'], .int .i64 0]) ∧ R9 w' a1 c1 a2' c2' k (m + 1) S (K ++ [S[i]]) ∧ Keep [] w w' ∧ (∀ a, a2' = some a → w.heap.size ≤ a.block) := by
  subst hn
  refine calls_abs fun R hR => ?_
  have n1 : ¬ (i : Int) < 0 := by omega
  have n2 : ¬ (k : Int) ≤ (i : Int) := by omega
  have n3 : ¬ (15 : Int) < (m : Int) := by omega
  have n4 : (0 : Int) ≤ (i : Int) := by omega
  have n5 : (i : Int) < (k : Int) := by omega
  obtain ⟨hS, hK, hr1, hr2⟩ := h
  obtain ⟨g, o, rfl, hlt, hcell⟩ := hr1.some (by simp; omega)
  have ce := hcell i (.int .i64 S[i]) (by simp [hiS])
  have H1 := Lib.hid hr1
  have HH := Lib.hid hr2
  have HS := Lib.hid hS
  have HKL := Lib.hid hK
  clear hr1 hr2 hcell hS hK
  have x1 : ¬ g = w.heap.size := by omega
  have x2 : ¬ g = w.heap.size + 1 := by omega
  have x3 : ¬ w.heap.size = g := by omega
  have x4 : ¬ w.heap.size + 1 = g := by omega
  have x5 : ¬ w.heap.size + 2 = g := by omega
  have x6 : ¬ g = w.heap.size + 2 := by omega
  go_enter Try.func46, Try.ntmps46
  go_wp2
  go_region_held3 (fun w' => w'.cell? ⟨w.heap.size, 0, none⟩ = some (.slice (some ⟨g, o, none⟩) k c1) ∧ w'.cell? ⟨w.heap.size, 1, none⟩ = some (.slice a2 m c2) ∧ w'.cell? ⟨g, o + i, none⟩ = some (.int .i64 S[i]))
    (refine ⟨?_, ?_, ?_⟩ <;> first
      | (refine Keep.cell (S := []) (w := w) ?_ ce (by simp); ((repeat (first | (with_reducible exact Keep.refl _ _) | (with_reducible refine Keep.drew ?_) | (with_reducible refine Keep.drewN ?_ _) | (with_reducible refine Keep.alloc ?_ _) | ((with_reducible refine Keep.setCell ?_ ?_ _); rotate_left; focus (first | (simp; done) | (simp; omega) | (left; dsimp only; omega))))); done))
      | (refine Keep.cell (S := []) (w := w) ?_ ce (by simp); ((repeat (first | (with_reducible exact HK2) | (with_reducible refine Keep.drew ?_) | (with_reducible refine Keep.drewN ?_ _) | (with_reducible refine Keep.alloc ?_ _) | ((with_reducible refine Keep.setCell ?_ ?_ _); rotate_left; focus (first | (simp; done) | (simp; omega) | (left; dsimp only; omega))))); done))
      | (refine Keep.cell (S := []) (w := w) ?_ ce (by simp); ((repeat (first | (with_reducible exact HK3) | (with_reducible refine Keep.drew ?_) | (with_reducible refine Keep.drewN ?_ _) | (with_reducible refine Keep.alloc ?_ _) | ((with_reducible refine Keep.setCell ?_ ?_ _); rotate_left; focus (first | (simp; done) | (simp; omega) | (left; dsimp only; omega))))); done))
      | (simp [*, World.cell?_alloc_some, World.cell?_setCell_far]; done))
    ((first
      | (refine step_append_nil _ (by rfl) _ _ _ (by rfl) elem_int (w.heap.size + 2) (by rfl) (.slice a2 m c2) m (K.map (Value.int .i64)) (by rfl) (HH.out.keep (S := []) (by repeat (first | (with_reducible exact Keep.refl _ _) | (with_reducible refine Keep.drew ?_) | (with_reducible refine Keep.drewN ?_ _) | (with_reducible refine Keep.alloc ?_ _) | (with_reducible refine Keep.setCell ?_ (by first | (simp; done) | (simp; omega) | (left; dsimp only; omega)) _))) (by simp)) (by simpa using HKL.out) (by simp [maxLen]; omega) (by omega) (by simp) ?_
         intro ao2 cap2 w2 ho2 hg2
         have b2 := grown_get hg2 (b := w.heap.size) (o := .cells #[.slice (some ⟨g, o, none⟩) k c1, .slice a2 m c2] 79 (0, 0)) (by first | exact alloc_keeps (alloc_new w _ _ rfl) _ | exact alloc_keeps (alloc_keeps (alloc_new w _ _ rfl) _) _) (by simp)
         have b2' := grown_get hg2 (b := w.heap.size + 1) (o := .cells #[.slice none 0 0, .slice none 0 0] 79 (0, 0)) (by first | exact alloc_new (w.alloc _) _ _ (by simp) | exact alloc_keeps (alloc_new (w.alloc _) _ _ (by simp)) _) (by simp)
         have HK2 : Keep [] w w2 := Keep.grown (S := []) (a := w) (by repeat (first | (with_reducible exact Keep.refl _ _) | (with_reducible refine Keep.drew ?_) | (with_reducible refine Keep.drewN ?_ _) | (with_reducible refine Keep.alloc ?_ _) | (with_reducible refine Keep.setCell ?_ (by first | (simp; done) | (simp; omega) | (left; dsimp only; omega)) _))) hg2 (by simp)
         have e2 := cell_at b2
         have ce2 := HK2.cell ce (by simp)
         have sz2 := HK2.size
         have y1 : ¬ g = w2.heap.size := by omega
         have y2 : ¬ w2.heap.size = g := by omega
         have y3 : ¬ w.heap.size = w2.heap.size := by have := lt_of_block b2; omega
         have y4 : ¬ w2.heap.size = w.heap.size := by omega)
      | (refine step_append_rd _ (by rfl) _ _ _ (by rfl) elem_int (w.heap.size + 2) (.slice ao2 m cap2) m (K.map (Value.int .i64)) (by rfl) (Keep.owns (S := []) (by repeat (first | (with_reducible exact Keep.refl _ _) | (with_reducible refine Keep.drew ?_) | (with_reducible refine Keep.drewN ?_ _) | (with_reducible refine Keep.alloc ?_ _) | (with_reducible refine Keep.setCell ?_ (by first | (simp; done) | (simp; omega) | (left; dsimp only; omega)) _))) ho2 (by simp)) _ 1 [.int .i64 S[i]] (by rfl) (by first | exact Rd.one (alloc_new _ _ _ (by simp)) rfl | exact Rd.one (grown_get hg2 (alloc_new _ _ _ (by simp)) (by simp)) rfl) (by simp) (by simp [maxLen]; omega) (by omega) (by have := hg2.size; simp at this ⊢; omega) ?_
         intro ao3 cap3 w3 ho3 hg3
         have hne : ∀ b, b < w.heap.size + 2 → some b ≠ (Value.slice ao2 m cap2).ownBlock := fun b hb h => by have hh := owns_block ho2 _ h.symm; omega
         have b3 := grown_get hg3 (b := w.heap.size) (o := .cells #[.slice (some ⟨g, o, none⟩) k c1, .slice a2 m c2] 79 (0, 0)) (by first | exact b2 | exact alloc_keeps b2 _) (hne _ (by omega))
         have b3' := grown_get hg3 (b := w.heap.size + 1) (o := .cells #[.slice none 0 0, .slice none 0 0] 79 (0, 0)) (by first | exact b2' | exact alloc_keeps b2' _) (hne _ (by omega))
         have HK3 : Keep [] w w3 := Keep.grown (S := []) (a := w) (by first | exact HK2 | exact HK2.alloc _) hg3 (fun k hk => .inl (by have := owns_block ho2 k hk; omega))
         have ce3 := HK3.cell ce (by simp)
         have e3 := cell_at b3
         have e3' := cell_at b3'
         have f3' := frozen_at b3')))
  all_goals
    go_wp2
    refine bodyPost_ret (v := .tuple #[.agg #[.slice (some ⟨g, o, none⟩) k c1, .slice ao3 (m + 1) cap3], .int .i64 0]) (by simp [results, Try.results46, go_sem, e3']) rfl ?_
    refine hR.out _ _ ⟨_, _, rfl, ⟨HS.out, by simp [HKL.out], H1.out.keep (S := []) ?_ (by simp), (Rd.of_owns (xs := (K ++ [S[i]]).map (Value.int .i64)) (by simpa using ho3) (ints_oneCell _ _)).keep (S := [w.heap.size + 1]) ?_ (fun g hg hm => ?_)⟩, ?_, fun a ha => ?_⟩
    · exact (HK3.setCell (by simp) _).setCell (by simp) _
    · ((repeat (first | (with_reducible exact Keep.refl _ _) | (with_reducible refine Keep.drew ?_) | (with_reducible refine Keep.drewN ?_ _) | (with_reducible refine Keep.alloc ?_ _) | ((with_reducible refine Keep.setCell ?_ ?_ _); rotate_left; focus (first | (simp; done) | (simp; omega) | (left; dsimp only; omega))))); done)
    · simp at hm
      have := owns_block ho3 g hg
      omega
    · exact (HK3.setCell (by simp) _).setCell (by simp) _
    · subst ha
      have := owns_block ho3 a.block rfl
      omega

theorem ref09_pop_bad (n : Int) {a1 a2 : Option Addr} {c1 c2 k m : Nat} (hi : n < 0 ∨ k ≤ n) (hk : k ≤ 4096) (w : World) :
    Calls Try.prog 47 #[.agg #[.slice a1 k c1, .slice a2 m c2], .int .i64 n] w fun e w' => e = .returned (.tuple #[.agg #[.slice a1 k c1, .slice a2 m c2], .int .i64 2]) ∧ Keep [] w w' := by
  refine calls_abs fun R hR => ?_
  by_cases h1 : n < 0
  · go_enter Try.func47, Try.ntmps47
    go_wp2
    refine bodyPost_ret (v := .tuple #[.agg #[.slice a1 k c1, .slice a2 m c2], .int .i64 2]) (by simp [results, Try.results47, go_sem]) rfl ?_
    exact hR.out _ _ ⟨rfl, (by repeat (first | (with_reducible exact Keep.refl _ _) | (with_reducible refine Keep.drew ?_) | (with_reducible refine Keep.drewN ?_ _) | (with_reducible refine Keep.alloc ?_ _) | (with_reducible refine Keep.setCell ?_ (by first | (simp; done) | (simp; omega) | (left; dsimp only; omega)) _)))⟩
  have h2 : k ≤ n := by omega
  clear hi
  go_enter Try.func47, Try.ntmps47
  go_wp2
  refine bodyPost_ret (v := .tuple #[.agg #[.slice a1 k c1, .slice a2 m c2], .int .i64 2]) (by simp [results, Try.results47, go_sem]) rfl ?_
  exact hR.out _ _ ⟨rfl, (by repeat (first | (with_reducible exact Keep.refl _ _) | (with_reducible refine Keep.drew ?_) | (with_reducible refine Keep.drewN ?_ _) | (with_reducible refine Keep.alloc ?_ _) | (with_reducible refine Keep.setCell ?_ (by first | (simp; done) | (simp; omega) | (left; dsimp only; omega)) _)))⟩

theorem ref09_pop_none (n : Int) {a1 a2 : Option Addr} {c1 c2 k : Nat} (h1 : ¬ n < 0) (h2 : ¬ k ≤ n) (w : World) :
    Calls Try.prog 47 #[.agg #[.slice a1 k c1, .slice a2 0 c2], .int .i64 n] w fun e w' => e = .returned (.tuple #[.agg #[.slice a1 k c1, .slice a2 0 c2], .int .i64 5]) ∧ Keep [] w w' := by
  refine calls_abs fun R hR => ?_
  go_enter Try.func47, Try.ntmps47
  go_wp2
  refine bodyPost_ret (v := .tuple #[.agg #[.slice a1 k c1, .slice a2 0 c2], .int .i64 5]) (by simp [results, Try.results47, go_sem]) rfl ?_
  exact hR.out _ _ ⟨rfl, (by repeat (first | (with_reducible exact Keep.refl _ _) | (with_reducible refine Keep.drew ?_) | (with_reducible refine Keep.drewN ?_ _) | (with_reducible refine Keep.alloc ?_ _) | (with_reducible refine Keep.setCell ?_ (by first | (simp; done) | (simp; omega) | (left; dsimp only; omega)) _)))⟩

set_option maxHeartbeats 1000000 in
theorem ref09_pop (n x : Int) (i : Nat) (hn : n = i) {a1 a2 : Option Addr} {c1 c2 k m : Nat} {S K : List Int} (hi : i < k) (hk : k ≤ 4096) (w : World) (h : R9 w a1 c1 a2 c2 k (m + 1) S (K ++ [x])) :
    Calls Try.prog 47 #[.agg #[.slice a1 k c1, .slice a2 (m + 1) c2], .int .i64 n] w fun e w' => ∃ a1' c1', e = .returned (.tuple #[.agg #[.slice a1' k c1', .slice a2 m c2], .int .i64 0]) ∧ R9 w' a1' c1' a2 c2 k m (S.set i x) K ∧ Keep [] w w' ∧ (∀ a, a1' = some a → w.heap.size ≤ a.block) := by
  subst hn
  refine calls_abs fun R hR => ?_
  have HH := Lib.hid h
  obtain ⟨hS, hK, hr1, hr2⟩ := h
  simp at hK
  obtain ⟨g, o, rfl, hlt, hcell⟩ := hr2.some (by simp)
  obtain ⟨_, hm1, hm2⟩ := hr2.len
  have hm3 : c2 ≤ 9223372036854775807 := by simpa [maxLen] using hm2
  clear hm2
  have nw : IntKind.i64.wrap (m : Int) = m := by rw [IntKind.wrap_i64]; omega
  have ce := hcell m (.int .i64 x) (by simp [← hK])
  have H2 := Lib.hid hr2
  have HKL := Lib.hid hK
  have HI := Lib.hid hi
  have HKK := Lib.hid hk
  have n1 : ¬ (i : Int) < 0 := by omega
  have n2 : ¬ (k : Int) ≤ (i : Int) := by omega
  have n4 : (0 : Int) ≤ (m : Int) := by omega
  have n5' : (m : Int) < (m : Int) + 1 := by omega
  have n6 : ((m : Int) + 1 == 0) = false := by simp; omega
  clear hS hr1 hr2 hcell hK
  go_enter Try.func47, Try.ntmps47
  go_wp2
  generalize hW : World.alloc (World.alloc w _) _ = W0
  have b0 : W0.heap[w.heap.size]? = some (.cells #[.slice a1 k c1, .slice (some ⟨g, o, none⟩) (m + 1) c2] 79 (0, 0)) := by rw [← hW]; exact alloc_keeps (alloc_new w _ _ rfl) _
  have b1 : W0.heap[w.heap.size + 1]? = some (.cells #[.slice none 0 0, .slice none 0 0] 79 (0, 0)) := by rw [← hW]; exact alloc_new (w.alloc _) _ _ (by simp)
  have K0 : Keep [] w W0 := by rw [← hW]; exact (by repeat (first | (with_reducible exact Keep.refl _ _) | (with_reducible refine Keep.drew ?_) | (with_reducible refine Keep.drewN ?_ _) | (with_reducible refine Keep.alloc ?_ _) | (with_reducible refine Keep.setCell ?_ (by first | (simp; done) | (simp; omega) | (left; dsimp only; omega)) _)))
  clear hW
  have e00 : W0.cell? ⟨w.heap.size, 0, none⟩ = some (.slice a1 k c1) := by rw [cell_at b0]; rfl
  have e01 : W0.cell? ⟨w.heap.size, 1, none⟩ = some (.slice (some ⟨g, o, none⟩) (m + 1) c2) := by rw [cell_at b0]; rfl
  have ce0 := K0.cell ce (by simp)
  have B0 := Lib.hid b0; have B1 := Lib.hid b1; have HK0 := Lib.hid K0; have H0 := Lib.hid (HH.out.keep K0); have l1 := lt_of_block b1
  have z1 : ¬ W0.heap.size = w.heap.size := by omega
  have z2 : ¬ w.heap.size = W0.heap.size := by omega
  have z3 : ¬ W0.heap.size = w.heap.size + 1 := by omega
  have z4 : ¬ w.heap.size + 1 = W0.heap.size := by omega
  have z5 : ¬ W0.heap.size = g := by have := lt_of_block b1; omega
  have z6 : ¬ g = W0.heap.size := by omega
  clear b0 b1 K0 ce
  go_region_held3 (fun w' => w'.cell? ⟨w.heap.size, 0, none⟩ = some (.slice a1 k c1) ∧ w'.cell? ⟨w.heap.size, 1, none⟩ = some (.slice (some ⟨g, o, none⟩) (m + 1) c2) ∧ w'.cell? ⟨g, o + m, none⟩ = some (.int .i64 x))
    (first
      | (refine ⟨Keep.cell (S := []) (w := W0) ?_ e00 (by simp), Keep.cell (S := []) (w := W0) ?_ e01 (by simp), Keep.cell (S := []) (w := W0) ?_ ce0 (by simp)⟩; all_goals (((repeat (first | (with_reducible exact Keep.refl _ _) | (with_reducible refine Keep.drew ?_) | (with_reducible refine Keep.drewN ?_ _) | (with_reducible refine Keep.alloc ?_ _) | ((with_reducible refine Keep.setCell ?_ ?_ _); rotate_left; focus (first | (simp; done) | (simp; omega) | (left; dsimp only; omega))))); done)))
      | (refine ⟨Keep.cell (S := []) (w := W0) ?_ e00 (by simp), Keep.cell (S := []) (w := W0) ?_ e01 (by simp), Keep.cell (S := []) (w := W0) ?_ ce0 (by simp)⟩; all_goals (((repeat (first | (with_reducible exact HK3.out) | (with_reducible refine Keep.drew ?_) | (with_reducible refine Keep.drewN ?_ _) | (with_reducible refine Keep.alloc ?_ _) | ((with_reducible refine Keep.setCell ?_ ?_ _); rotate_left; focus (first | (simp; done) | (simp; omega) | (left; dsimp only; omega))))); done))))
    ((first
      | (go_at_call 73; refine (ref09_with i i rfl x HI.out HKK.out W0.drew (H0.out.keep (by repeat (first | (with_reducible exact Keep.refl _ _) | (with_reducible refine Keep.drew ?_) | (with_reducible refine Keep.drewN ?_ _) | (with_reducible refine Keep.alloc ?_ _) | (with_reducible refine Keep.setCell ?_ (by first | (simp; done) | (simp; omega) | (left; dsimp only; omega)) _))))).mono ?_
         rintro e w3 ⟨a1', c1', rfl, R3, K3, F3⟩
         have b7 : True := trivial
         have HK3 := Lib.hid K3.off_drew
         have b3' := HK3.out.get B1.out (by simp)
         have b3 := HK3.out.get B0.out (by simp)
         have e3 := cell_at b3
         have e3' := cell_at b3'
         have f3' := frozen_at b3'
         have l3 := lt_of_block b3'
         have y1 : ¬ w.heap.size = w3.heap.size := by omega
         have y2 : ¬ w3.heap.size = w.heap.size := by omega
         have y3 : ¬ w.heap.size + 1 = w3.heap.size := by omega
         have y4 : ¬ w3.heap.size = w.heap.size + 1 := by omega
         have ec0 : ∀ u v o, (((w3.setCell ⟨w.heap.size + 1, 0, none⟩ u).setCell ⟨w.heap.size + 1, 1, none⟩ v).alloc o).cell? ⟨w.heap.size + 1, 0, none⟩ = some u := fun u v o => by rw [cell_at (alloc_keeps (put_at (put_at b3' _ _) _ _) _)]; rfl
         have ec1 : ∀ u v o, (((w3.setCell ⟨w.heap.size + 1, 0, none⟩ u).setCell ⟨w.heap.size + 1, 1, none⟩ v).alloc o).cell? ⟨w.heap.size + 1, 1, none⟩ = some v := fun u v o => by rw [cell_at (alloc_keeps (put_at (put_at b3' _ _) _ _) _)]; rfl
         have HR3 := Lib.hid R3; have HF3 := Lib.hid F3
         clear b3 b3' K3 R3 F3)
      | (go_at_call 73; refine (ref09_with i i rfl x HI.out HKK.out (W0.alloc (.cells #[.slice none 0 0, .slice none 0 0] 79)).drew (H0.out.keep (by repeat (first | (with_reducible exact Keep.refl _ _) | (with_reducible refine Keep.drew ?_) | (with_reducible refine Keep.drewN ?_ _) | (with_reducible refine Keep.alloc ?_ _) | (with_reducible refine Keep.setCell ?_ (by first | (simp; done) | (simp; omega) | (left; dsimp only; omega)) _))))).mono ?_
         rintro e w3 ⟨a1', c1', rfl, R3, K3, F3⟩
         have b7 := K3.get (b := W0.heap.size) (o := .cells #[.slice none 0 0, .slice none 0 0] 79 (0, 0)) (by exact alloc_new W0 _ _ rfl) (by simp)
         have HK3 : Hid (Keep [] W0 w3) := Lib.hid (Keep.trans (by repeat (first | (with_reducible exact Keep.refl _ _) | (with_reducible refine Keep.drew ?_) | (with_reducible refine Keep.drewN ?_ _) | (with_reducible refine Keep.alloc ?_ _) | (with_reducible refine Keep.setCell ?_ (by first | (simp; done) | (simp; omega) | (left; dsimp only; omega)) _))) K3)
         have b3' := HK3.out.get B1.out (by simp)
         have b3 := HK3.out.get B0.out (by simp)
         have e3 := cell_at b3
         have e3' := cell_at b3'
         have f3' := frozen_at b3'
         have e70 : w3.cell? ⟨W0.heap.size, 0, none⟩ = some (.slice none 0 0) := by rw [cell_at b7]; rfl
         have e71 : w3.cell? ⟨W0.heap.size, 1, none⟩ = some (.slice none 0 0) := by rw [cell_at b7]; rfl
         have e72 : ∀ (u v : Value), ((w3.setCell ⟨W0.heap.size, 0, none⟩ u).setCell ⟨W0.heap.size, 1, none⟩ v).cell? ⟨W0.heap.size, 1, none⟩ = some v := fun u v => by rw [cell_at (put_at (put_at b7 _ _) _ _)]; rfl
         have e73 : ∀ (u v v' : Value), (((w3.setCell ⟨W0.heap.size, 0, none⟩ u).setCell ⟨W0.heap.size, 1, none⟩ v).setCell ⟨W0.heap.size, 1, none⟩ v').cell? ⟨W0.heap.size, 1, none⟩ = some v' := fun u v v' => by rw [cell_at (put_at (put_at (put_at b7 _ _) _ _) _ _)]; rfl
         have f7 := frozen_at b7
         have HR3 := Lib.hid R3; have HF3 := Lib.hid F3
         clear b3 b3' b7 K3 R3 F3)))
  · go_wp2_with fail
    refine bodyPost_ret (v := .tuple #[.agg #[.slice a1' k c1', .slice (some ⟨g, o, none⟩) m c2], .int .i64 0]) (by simp [results, Try.results47, go_sem, ec0, ec1]) rfl ?_
    have hK0 := HK0.out
    have hK3 := HK3.out
    have hKw : Keep [] w w3 := hK0.trans hK3
    refine hR.out _ _ ⟨_, _, rfl, ⟨HR3.out.1, HKL.out, HR3.out.2.2.1.keep (S := [w.heap.size + 1]) ?_ ?_, ?_⟩, ?_, fun a ha => by have h3 := HF3.out a ha; have h4 := hK0.size; simp at h3; omega⟩
    · ((repeat (first | (with_reducible exact Keep.refl _ _) | (with_reducible refine Keep.drew ?_) | (with_reducible refine Keep.drewN ?_ _) | (with_reducible refine Keep.alloc ?_ _) | ((with_reducible refine Keep.setCell ?_ ?_ _); rotate_left; focus (first | (simp; done) | (simp; omega) | (left; dsimp only; omega))))); done)
    · intro g' hg hm; rcases a1' with _ | a <;> simp [Value.ownBlock] at hg; have := HF3.out _ rfl; simp at this; simp at hm; omega
    · have := (H2.out.take (k := m) (by omega)).keep (w' := w3) hKw (by simp)
      rw [show ((K ++ [x]).map (Value.int .i64)).take m = K.map (Value.int .i64) from by rw [← HKL.out]; simp] at this
      refine this.keep (S := [w.heap.size + 1, W0.heap.size]) ?_ (by simp [Value.ownBlock]; omega)
      ((repeat (first | (with_reducible exact Keep.refl _ _) | (with_reducible refine Keep.drew ?_) | (with_reducible refine Keep.drewN ?_ _) | (with_reducible refine Keep.alloc ?_ _) | ((with_reducible refine Keep.setCell ?_ ?_ _); rotate_left; focus (first | (simp; done) | (simp; omega) | (left; dsimp only; omega))))); done)
    · exact (by repeat (first | (with_reducible exact hKw) | (with_reducible refine Keep.drew ?_) | (with_reducible refine Keep.drewN ?_ _) | (with_reducible refine Keep.alloc ?_ _) | (with_reducible refine Keep.setCell ?_ (by first | (simp; done) | (simp; omega) | (left; dsimp only; omega)) _)))
  · go_wp2_with fail
    refine bodyPost_ret (v := .tuple #[.agg #[.slice a1' k c1', .slice (some ⟨g, o, none⟩) m c2], .int .i64 0]) (by simp [results, Try.results47, go_sem, e3', z1, z2, z3, z4]) rfl ?_
    have hK0 := HK0.out
    have hK3 := HK3.out
    have hKw : Keep [] w w3 := hK0.trans hK3
    refine hR.out _ _ ⟨_, _, rfl, ⟨HR3.out.1, HKL.out, HR3.out.2.2.1.keep (S := [w.heap.size + 1, W0.heap.size]) ?_ ?_, ?_⟩, ?_, fun a ha => by have h3 := HF3.out a ha; have h4 := hK0.size; simp at h3; omega⟩
    · ((repeat (first | (with_reducible exact Keep.refl _ _) | (with_reducible refine Keep.drew ?_) | (with_reducible refine Keep.drewN ?_ _) | (with_reducible refine Keep.alloc ?_ _) | ((with_reducible refine Keep.setCell ?_ ?_ _); rotate_left; focus (first | (simp; done) | (simp; omega) | (left; dsimp only; omega))))); done)
    · intro g' hg hm; rcases a1' with _ | a <;> simp [Value.ownBlock] at hg; have := HF3.out _ rfl; simp at this; simp at hm; omega
    · have := (H2.out.take (k := m) (by omega)).keep (w' := w3) hKw (by simp)
      rw [show ((K ++ [x]).map (Value.int .i64)).take m = K.map (Value.int .i64) from by rw [← HKL.out]; simp] at this
      refine this.keep (S := [w.heap.size + 1, W0.heap.size]) ?_ (by simp [Value.ownBlock]; omega)
      ((repeat (first | (with_reducible exact Keep.refl _ _) | (with_reducible refine Keep.drew ?_) | (with_reducible refine Keep.drewN ?_ _) | (with_reducible refine Keep.alloc ?_ _) | ((with_reducible refine Keep.setCell ?_ ?_ _); rotate_left; focus (first | (simp; done) | (simp; omega) | (left; dsimp only; omega))))); done)
    · exact (by repeat (first | (with_reducible exact hKw) | (with_reducible refine Keep.drew ?_) | (with_reducible refine Keep.drewN ?_ _) | (with_reducible refine Keep.alloc ?_ _) | (with_reducible refine Keep.setCell ?_ (by first | (simp; done) | (simp; omega) | (left; dsimp only; omega)) _)))

def Ref09AllInv (w1 : World) (X : List Int) (v i : Value) (wr : World) : Prop :=
  ∃ (k : Nat) (L : List Int), k ≤ X.length ∧ i = .int .i64 k ∧ L = (X.take k).filter (· != 0) ∧ wr.ownsRow w1.heap.size 3 1 v L.length (L.map (Value.int .i64)) ∧ Keep [] w1 wr

set_option maxHeartbeats 1000000 in
set_option maxRecDepth 10000 in
theorem ref09_all {a1 a2 : Option Addr} {c1 c2 n m : Nat} {S K : List Int} (hn : n ≤ 4096) (hm : m ≤ 4096) (w : World) (h : R9 w a1 c1 a2 c2 n m S K) :
    Calls Try.prog 50 #[.agg #[.slice a1 n c1, .slice a2 m c2]] w fun e w' => ∃ v L, e = .returned v ∧ L = (S ++ K).filter (· != 0) ∧ Rd w' v L.length (L.map (.int .i64 ·)) ∧ Keep [] w w' := by
  refine calls_abs fun R hR => ?_
  have nw : IntKind.i64.wrap ((n : Int) + m) = n + m := by rw [IntKind.wrap_i64]; omega
  have HH := Lib.hid h
  have HN := Lib.hid hn
  have HM := Lib.hid hm
  clear h hn hm
  go_enter Try.func50, Try.ntmps50
  go_wp2_with fail
  generalize hW : World.alloc w _ = W0
  have b0 : W0.heap[w.heap.size]? = some (.cells #[.slice a1 n c1, .slice a2 m c2] 79 (0, 0)) := by rw [← hW]; exact alloc_new w _ _ rfl
  have K0 : Keep [] w W0 := by rw [← hW]; exact (by repeat (first | (with_reducible exact Keep.refl _ _) | (with_reducible refine Keep.drew ?_) | (with_reducible refine Keep.drewN ?_ _) | (with_reducible refine Keep.alloc ?_ _) | (with_reducible refine Keep.setCell ?_ (by first | (simp; done) | (simp; omega) | (left; dsimp only; omega)) _)))
  clear hW
  have B0 := Lib.hid b0; have HK0 := Lib.hid K0; clear b0 K0
  go_loopw [3, 4] (fun v i wr => Ref09AllInv W0 (S ++ K) v i wr) (fun _ i _ => (S ++ K).length - (intOf i).toNat)
  case atStart => exact ⟨0, [], by omega, rfl, by simp, World.ownsRow_nil _ _ _ _, Keep.refl _ _⟩
  case round =>
    obtain ⟨k, L, hk, rfl, hL, HO, HK⟩ := hrel
    have b1 := HK.get B0.out (by simp)
    have e0 : wr.cell? ⟨w.heap.size, 0, none⟩ = some (.slice a1 n c1) := by rw [cell_at b1]; rfl
    have e1 : wr.cell? ⟨w.heap.size, 1, none⟩ = some (.slice a2 m c2) := by rw [cell_at b1]; rfl
    have H1 := Lib.hid (HH.out.keep (HK0.out.trans HK))
    have HHO := Lib.hid HO; have HHK := Lib.hid HK; have HL := Lib.hid hL
    have hlx : (S ++ K).length = n + m := by have h := HH.out; simp [h.1, h.2.1]
    have hLX : L.length ≤ k := by rw [hL]; exact Nat.le_trans (List.length_filter_le _ _) (by simp; omega)
    have hk2 : k ≤ n + m := by omega
    have hnn := HN.out
    have hmm := HM.out
    clear HO HK hL b1
    obtain ⟨ao, cap, rfl, hc1, hc2⟩ := owns_val HHO.out
    by_cases hkn : k < n + m
    · have hkX : k < (S ++ K).length := by omega
      have nx : (k : Int) < (n : Int) + (m : Int) := by omega
      have nx0 : (0 : Int) ≤ (k : Int) := by omega
      have hstep : (S ++ K).take (k + 1) = (S ++ K).take k ++ [(S ++ K)[k]] := List.take_succ_eq_append_getElem hkX
      have hat : (S ++ K)[k] = (S ++ K)[k] := rfl
      generalize hx : (S ++ K)[k] = x at hstep hat
      clear hat
      by_cases hks : k < n
      · have hks2 : (k : Int) < (n : Int) := by omega
        obtain ⟨g, o, rfl, hlt, hcell⟩ := H1.out.2.2.1.some (by have := HH.out.1; simp; omega)
        have cx := hcell k (.int .i64 x) (by have := HH.out.1; rw [← hx, List.getElem_append_left (by omega)]; simp)
        clear hcell
        by_cases hz : x = 0
        · subst hz
          go_wp2_with fail
          go_roundw
          case rel => exact ⟨k + 1, L, by omega, by go_num, by rw [hstep, List.filter_append, ← HL.out]; simp, HHO.out, HHK.out⟩
          case measure => rw [hlx]; simp [intOf]; omega
        · have nz : (x != 0) = true := by simpa using hz
          have nz2 : (x == 0) = false := by simpa using hz
          have HZ := Lib.hid hz
          clear hz
          go_wp2_with (at_builtin; go_loud (refine wpList_append_rd _ rfl _ _ _ rfl elem_int W0.heap.size (.slice ao L.length cap) L.length (L.map (Value.int .i64)) rfl (HHO.out.alloc _) _ 1 [.int .i64 x] rfl (Rd.lit wr (.int .i64 x) _ rfl) rfl (by simp [maxLen]; omega) (by omega) (by have := HHK.out.size; simp; omega) ?_); intro ao3 cap3 w5 ho5 hg5; have HO5 := Lib.hid ho5; have HG5 := Lib.hid hg5; clear ho5 hg5)
          have hk5 : Keep ((Value.slice ao L.length cap).ownBlock.toList) wr w5 := ((Keep.refl _ wr).alloc _).grown HG5.out (fun g hg => .inr (by simpa using hg))
          have hnb : ∀ x ∈ (Value.slice ao L.length cap).ownBlock.toList, W0.heap.size ≤ x := fun x hm => (owns_block HHO.out x (by simpa using hm)).1
          have HK5 := Lib.hid hk5; have HNB := Lib.hid hnb; clear hk5 hnb
          go_roundw
          case rel => exact ⟨k + 1, L ++ [x], by omega, by go_num, by rw [hstep, List.filter_append, ← HL.out]; simp [HZ.out], by simpa using HO5.out, Keep.of_below (HHK.out.below_self.trans (HK5.out.below HHK.out.size HNB.out))⟩
          case measure => rw [hlx]; simp [intOf]; omega
      · have hks2 : ¬ (k : Int) < (n : Int) := by omega
        obtain ⟨j, rfl⟩ : ∃ j, k = n + j := ⟨k - n, by omega⟩
        have nj : ((n + j : Nat) : Int) - n = j := by omega
        have nj2 : IntKind.i64.wrap (j : Int) = j := by rw [IntKind.wrap_i64]; omega
        have nj3 : (0 : Int) ≤ j := by omega
        have nj4 : (j : Int) < m := by omega
        obtain ⟨g, o, rfl, hlt, hcell⟩ := H1.out.2.2.2.some (by have := HH.out.2.1; simp; omega)
        have cx := hcell j (.int .i64 x) (by have h1 := HH.out.1; have := HH.out.2.1; rw [← hx, List.getElem_append_right (by omega)]; simp [h1])
        clear hcell
        by_cases hz : x = 0
        · subst hz
          go_wp2_with fail
          go_roundw
          case rel => exact ⟨n + j + 1, L, by omega, by go_num, by rw [hstep, List.filter_append, ← HL.out]; simp, HHO.out, HHK.out⟩
          case measure => rw [hlx]; simp [intOf]; omega
        · have nz : (x != 0) = true := by simpa using hz
          have nz2 : (x == 0) = false := by simpa using hz
          have HZ := Lib.hid hz
          clear hz
          go_wp2_with (at_builtin; go_loud (refine wpList_append_rd _ rfl _ _ _ rfl elem_int W0.heap.size (.slice ao L.length cap) L.length (L.map (Value.int .i64)) rfl (HHO.out.alloc _) _ 1 [.int .i64 x] rfl (Rd.lit wr (.int .i64 x) _ rfl) rfl (by simp [maxLen]; omega) (by omega) (by have := HHK.out.size; simp; omega) ?_); intro ao3 cap3 w5 ho5 hg5; have HO5 := Lib.hid ho5; have HG5 := Lib.hid hg5; clear ho5 hg5)
          have hk5 : Keep ((Value.slice ao L.length cap).ownBlock.toList) wr w5 := ((Keep.refl _ wr).alloc _).grown HG5.out (fun g hg => .inr (by simpa using hg))
          have hnb : ∀ x ∈ (Value.slice ao L.length cap).ownBlock.toList, W0.heap.size ≤ x := fun x hm => (owns_block HHO.out x (by simpa using hm)).1
          have HK5 := Lib.hid hk5; have HNB := Lib.hid hnb; clear hk5 hnb
          go_roundw
          case rel => exact ⟨n + j + 1, L ++ [x], by omega, by go_num, by rw [hstep, List.filter_append, ← HL.out]; simp [HZ.out], by simpa using HO5.out, Keep.of_below (HHK.out.below_self.trans (HK5.out.below HHK.out.size HNB.out))⟩
          case measure => rw [hlx]; simp [intOf]; omega
    · have hkn2 : k = (S ++ K).length := by omega
      have nx : ¬ (k : Int) < (n : Int) + (m : Int) := by omega
      go_wp2_with fail
      refine hR.out _ _ ⟨_, L, rfl, by rw [HL.out, hkn2, List.take_length], Rd.of_owns HHO.out (by simp [Value.oneCell']), HK0.out.trans HHK.out⟩
end Go.Proofs.Ytgdbccficcgbdaa
