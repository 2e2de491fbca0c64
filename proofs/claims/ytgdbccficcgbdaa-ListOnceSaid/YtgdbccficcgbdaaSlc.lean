/- Contracts of package slices at whole numbers: Index, Contains, Clone, Reverse. -/
import Derived.Test.YtgdbccficcgbdaaStack
import Derived.Deep.LoopGhost
import Derived.Deep.DeepCutAuto
import Derived.Deep.RegionHeld3
import Derived.StillTailTactics
namespace Go.Proofs.Ytgdbccficcgbdaa
open Go.RowKit
set_option linter.unusedVariables false
set_option linter.unusedSimpArgs false

def ints (xs : List Int) : List Value := xs.map (Value.int .i64)
theorem ints_get (xs : List Int) (i : Nat) : (ints xs)[i]? = xs[i]?.map (Value.int .i64) := by simp [ints]
theorem ints_len (xs : List Int) : (ints xs).length = xs.length := by simp [ints]

/-- Where v lies first; -1: nowhere. -/
def idxOf (xs : List Int) (v : Int) : Int := if v ∈ xs then (xs.idxOf v : Nat) else -1

set_option maxRecDepth 100000 in
theorem slices_index {w : World} {v0 : Value} {n : Nat} {xs : List Int} (h : Rd w v0 n (ints xs)) (hn : xs.length = n) (v : Int) :
    Calls Try.prog 82 #[v0, .int .i64 v] w fun e w' => e = .returned (.int .i64 (idxOf xs v)) ∧ w' = w := by
  refine calls_abs fun R hR => ?_
  obtain ⟨ao, cap, rfl, hcap, hmax⟩ := h.shape
  have H := Lib.hid h
  have hm : n ≤ 9223372036854775807 := by simp only [maxLen] at hmax; omega
  clear h
  go_enter Try.func82, Try.ntmps82
  go_wp2_with fail
  go_loopg [8] n (fun j i wr => ∃ k : Nat, k + j = n ∧ i = .int .i64 k ∧ (∀ p x, p < k → xs[p]? = some x → x ≠ v) ∧ wr = w)
  case atStart => exact ⟨0, by omega, rfl, fun p x hp => by omega, rfl⟩
  case round =>
    obtain ⟨k, hk, rfl, hne, rfl⟩ := hrel
    have HNE := Lib.hid hne
    clear hne
    by_cases hkn : k < n
    · obtain ⟨b4, o4, rfl, hb4, hc4⟩ := H.out.some (by rw [ints_len]; omega)
      have hkx : k < xs.length := by omega
      have e4 := hc4 k (.int .i64 xs[k]) (by rw [ints_get]; simp [hkx])
      have i0 : (0 : Int) ≤ (k : Int) := by omega
      have i1 : (k : Int) < (n : Int) := by omega
      clear hc4
      by_cases hv : xs[k] = v
      · have hv1 : (v == xs[k]) = true := by simp [hv]
        go_wp2_with fail
        refine hR.out _ _ ⟨?_, rfl⟩
        have hmem : v ∈ xs := by rw [← hv]; exact List.getElem_mem _
        have hidx : xs.idxOf v = k := by
          have h1 : xs.idxOf v < xs.length := List.idxOf_lt_length_of_mem hmem
          have h2 : xs[xs.idxOf v] = v := List.getElem_idxOf h1
          have h3 : ¬ xs.idxOf v < k := fun h => HNE.out _ _ h (List.getElem?_eq_getElem h1) h2
          have h4 : ¬ k < xs.idxOf v := fun h => by
            have := List.not_of_lt_findIdx (p := (· == v)) (xs := xs) (i := k) h
            simp [hv] at this
          omega
        simp [idxOf, hmem, hidx]
      · have hv1 : (v == xs[k]) = false := by simp; exact fun h => hv h.symm
        go_wp2_with fail
        go_roundg (n - (k + 1))
        case measure => omega
        case rel =>
          refine ⟨k + 1, by omega, by go_num, fun p x hp hx => ?_, rfl⟩
          by_cases hpk : p = k
          · subst hpk
            rw [List.getElem?_eq_getElem hkx] at hx
            cases hx
            exact hv
          · exact HNE.out p x (by omega) hx
    · have hkn2 : k = n := by omega
      go_wp2_with fail
      refine hR.out _ _ ⟨?_, rfl⟩
      have hmem : v ∉ xs := fun hm => by
        obtain ⟨p, hp, hx⟩ := List.getElem_of_mem hm
        exact HNE.out p v (by omega) (by rw [List.getElem?_eq_getElem hp, hx]) rfl
      simp [idxOf, hmem]

theorem slices_contains {w : World} {v0 : Value} {n : Nat} {xs : List Int} (h : Rd w v0 n (ints xs)) (hn : xs.length = n) (v : Int) :
    Calls Try.prog 78 #[v0, .int .i64 v] w fun e w' => e = .returned (.bool (decide (v ∈ xs))) ∧ w' = w := by
  refine calls_abs fun R hR => ?_
  have H := Lib.hid h
  clear h
  go_enter Try.func78, Try.ntmps78
  go_wp2_with fail
  refine (slices_index H.out hn v).mono ?_
  rintro e w' ⟨rfl, rfl⟩
  by_cases hm : v ∈ xs
  · have h1 : idxOf xs v = (xs.idxOf v : Nat) := by simp [idxOf, hm]
    rw [h1]
    have h2 : (0 : Int) ≤ ((xs.idxOf v : Nat) : Int) := by omega
    go_wp2_with fail
    exact hR.out _ _ ⟨by simp [hm], rfl⟩
  · have h1 : idxOf xs v = -1 := by simp [idxOf, hm]
    rw [h1]
    go_wp2_with fail
    exact hR.out _ _ ⟨by simp [hm], rfl⟩

set_option maxRecDepth 100000 in
theorem slices_clone {w : World} {v0 : Value} {n : Nat} {xs : List Int} (h : Rd w v0 n (ints xs)) (hn : xs.length = n) (hs : n ≤ 100000) :
    Calls Try.prog 66 #[v0] w fun e w' => ∃ v, e = .returned v ∧ w'.ownsRow w.heap.size 3 1 v n (ints xs) ∧ Keep [] w w' := by
  refine calls_abs fun R hR => ?_
  obtain ⟨ao, cap, rfl, hcap, hmax⟩ := h.shape
  have H := Lib.hid h
  have hsn := fun (w : World) (a : Option Addr) (n c : Nat) => Go.Lib.run_eql_slice_nil w 28 3 a n c 0 0 Try.underlying28
  clear h
  cases ao with
  | none =>
    obtain ⟨_, _, hv, _, _, h3, _⟩ := H.out
    cases hv
    obtain ⟨rfl, rfl, hnil⟩ := h3 rfl
    go_enter Try.func66, Try.ntmps66
    go_wp2_with fail
    exact hR.out _ _ ⟨_, rfl, by rw [hnil]; exact World.ownsRow_nil _ _ _ _, Keep.refl _ _⟩
  | some ad =>
    go_enter Try.func66, Try.ntmps66
    have ho : (w.alloc (.cells #[] 3)).ownsRow w.heap.size 3 1 (.slice (some ⟨w.heap.size, 0, none⟩) 0 0) 0 [] :=
      ⟨rfl, .inr ⟨w.heap.size, 0, #[], rfl, Nat.le_refl _, alloc_new w _ w.heap.size rfl, Nat.le_refl _, Nat.zero_le _, rfl, rfl⟩⟩
    have HO := Lib.hid ho
    clear ho
    go_wp2_with (at_builtin; go_loud (refine wpList_append_rd _ rfl _ _ _ rfl elem_int w.heap.size _ 0 [] rfl HO.out _ n (ints xs) rfl (H.out.keep (S := []) (by repeat (first | (with_reducible exact Keep.refl _ _) | (with_reducible refine Keep.drew ?_) | (with_reducible refine Keep.drewN ?_ _) | (with_reducible refine Keep.alloc ?_ _) | (with_reducible refine Keep.setCell ?_ (by first | (simp; done) | (simp; omega) | (left; dsimp only; omega)) _))) (fun _ _ => by simp)) (by rw [ints_len]; omega) (by simp only [maxLen]; omega) (by omega) (by simp) ?_); intro ao' cap' w' ho hg)
    simp only [Nat.zero_add, List.nil_append] at ho
    refine hR.out _ _ ⟨_, by simp, ho, Keep.grown (w := w.alloc (.cells #[] 3)) (row := some w.heap.size) (by repeat (first | (with_reducible exact Keep.refl _ _) | (with_reducible refine Keep.drew ?_) | (with_reducible refine Keep.drewN ?_ _) | (with_reducible refine Keep.alloc ?_ _) | (with_reducible refine Keep.setCell ?_ (by first | (simp; done) | (simp; omega) | (left; dsimp only; omega)) _))) hg (by simp)⟩
end Go.Proofs.Ytgdbccficcgbdaa
