/- Contracts of package slices at whole numbers: Reverse, IndexFunc, DeleteFunc. -/
import Derived.Test.YtgdbccficcgbdaaSlc
import Derived.Shelf.RegionOpenPlain
namespace Go.Proofs.Ytgdbccficcgbdaa
open Go.RowKit
set_option linter.unusedVariables false
set_option linter.unusedSimpArgs false

/-- A row of the call's own with a block: its block, its capacity. -/
structure Row (w : World) (base g n cap : Nat) (xs : List Int) : Prop where
  len : xs.length = n
  above : base ≤ g
  fits : n ≤ cap
  small : cap ≤ maxLen
  held : ∃ cur : Array Value, w.heap[g]? = some (.cells cur 3 (0, 0)) ∧ cur.size = cap ∧ cur.toList.take n = ints xs

theorem Row.owns {w : World} {base g n cap : Nat} {xs : List Int} (h : Row w base g n cap xs) : w.ownsRow base 3 1 (.slice (some ⟨g, 0, none⟩) n cap) n (ints xs) := by
  obtain ⟨h1, h2, h3, h4, cur, h5, h6, h7⟩ := h
  exact ⟨by rw [ints_len]; omega, .inr ⟨g, cap, cur, rfl, h2, h5, h3, h4, by omega, by simpa using h7⟩⟩
theorem row_of_owns {w : World} {base n : Nat} {v : Value} {xs : List Int} (h : w.ownsRow base 3 1 v n (ints xs)) : (v = .slice none 0 0 ∧ n = 0 ∧ xs = []) ∨ ∃ g cap, v = .slice (some ⟨g, 0, none⟩) n cap ∧ Row w base g n cap xs := by
  obtain ⟨h1, h | ⟨g, cap, cur, rfl, h2, h3, h4, h5, h6, h7⟩⟩ := h
  · refine .inl ⟨h.1, h.2, ?_⟩
    rw [ints_len, h.2] at h1
    exact List.eq_nil_of_length_eq_zero (by omega)
  · exact .inr ⟨g, cap, rfl, ⟨by rw [ints_len] at h1; omega, h2, h4, h5, cur, h3, by omega, by simpa using h7⟩⟩
theorem Row.lt {w : World} {base g n cap : Nat} {xs : List Int} (h : Row w base g n cap xs) : g < w.heap.size := by
  obtain ⟨h1, h2, h3, h4, cur, h5, h6, h7⟩ := h
  exact lt_of_block h5
theorem Row.keep {S : List Nat} {w w' : World} {base g n cap : Nat} {xs : List Int} (h : Row w base g n cap xs) (k : Keep S w w') (hg : g ∉ S) : Row w' base g n cap xs := by
  obtain ⟨h1, h2, h3, h4, cur, h5, h6, h7⟩ := h
  exact ⟨h1, h2, h3, h4, cur, k.get h5 hg, h6, h7⟩
theorem Row.cell {w : World} {base g n cap : Nat} {xs : List Int} (h : Row w base g n cap xs) (i : Nat) (hi : i < xs.length) : w.cell? ⟨g, i, none⟩ = some (.int .i64 xs[i]) := by
  obtain ⟨h1, h2, h3, h4, cur, h5, h6, h7⟩ := h
  rw [cell_at h5]
  have : (cur.toList.take n)[i]? = some (.int .i64 xs[i]) := by rw [h7, ints_get]; simp [hi]
  rw [List.getElem?_take] at this
  split at this
  · simpa using this
  · cases this
theorem Row.frozen {w : World} {base g n cap : Nat} {xs : List Int} (h : Row w base g n cap xs) (i : Nat) : w.frozen? ⟨g, i, none⟩ = false := by
  obtain ⟨h1, h2, h3, h4, cur, h5, h6, h7⟩ := h
  exact frozen_at h5 i
theorem Row.set {w : World} {base g n cap : Nat} {xs : List Int} (h : Row w base g n cap xs) (i : Nat) (x : Int) (hi : i < n) : Row (w.setCell ⟨g, i, none⟩ (.int .i64 x)) base g n cap (xs.set i x) := by
  obtain ⟨h1, h2, h3, h4, cur, h5, h6, h7⟩ := h
  refine ⟨by simpa using h1, h2, h3, h4, _, put_at h5 i _, by simpa using h6, ?_⟩
  simp only [Array.toList_setIfInBounds, List.take_set, h7, ints, List.map_set]
theorem Row.take {w : World} {base g n cap : Nat} {xs : List Int} (h : Row w base g n cap xs) (m : Nat) (hm : m ≤ n) : Row w base g m cap (xs.take m) := by
  obtain ⟨h1, h2, h3, h4, cur, h5, h6, h7⟩ := h
  refine ⟨by simp; omega, h2, by omega, h4, cur, h5, h6, ?_⟩
  have := congrArg (List.take m) h7
  rw [List.take_take, Nat.min_eq_left hm] at this
  rw [this]
  simp [ints, List.map_take]

/-- The first k and the last k elements have changed places. -/
def revk (xs : List Int) (k : Nat) : List Int := (List.range xs.length).map fun p => if p < k ∨ xs.length - k ≤ p then xs.getD (xs.length - 1 - p) 0 else xs.getD p 0
theorem revk_len (xs : List Int) (k : Nat) : (revk xs k).length = xs.length := by simp [revk]
theorem revk_get (xs : List Int) (k p : Nat) (hp : p < xs.length) : (revk xs k)[p]? = some (if p < k ∨ xs.length - k ≤ p then xs.getD (xs.length - 1 - p) 0 else xs.getD p 0) := by
  simp [revk, hp]
theorem revk_zero (xs : List Int) : revk xs 0 = xs := by
  apply List.ext_getElem?
  intro p
  by_cases hp : p < xs.length
  · rw [revk_get xs 0 p hp, if_neg (by omega)]
    simp [hp]
  · rw [List.getElem?_eq_none (by rw [revk_len]; omega), List.getElem?_eq_none (by omega)]
theorem revk_all (xs : List Int) (k : Nat) (hk : xs.length ≤ 2 * k + 1) : revk xs k = xs.reverse := by
  apply List.ext_getElem?
  intro p
  by_cases hp : p < xs.length
  · rw [revk_get xs k p hp, List.getElem?_reverse hp]
    have h1 : xs.length - 1 - p < xs.length := by omega
    split
    · simp [h1]
    · rename_i hn
      have : p = xs.length - 1 - p := by omega
      rw [← this]
      simp [hp]
  · rw [List.getElem?_eq_none (by rw [revk_len]; omega), List.getElem?_eq_none (by simp; omega)]
theorem revk_step (xs : List Int) (k : Nat) (hk : 2 * k + 1 < xs.length) : ((revk xs k).set k (xs.getD (xs.length - 1 - k) 0)).set (xs.length - 1 - k) (xs.getD k 0) = revk xs (k + 1) := by
  apply List.ext_getElem?
  intro p
  by_cases hp : p < xs.length
  · rw [revk_get xs (k + 1) p hp, List.getElem?_set, List.getElem?_set]
    simp only [List.length_set, revk_len]
    by_cases e1 : xs.length - 1 - k = p
    · rw [if_pos e1, if_pos (by omega), if_pos (by omega)]
      rw [show xs.length - 1 - p = k from by omega]
    · rw [if_neg e1]
      by_cases e2 : k = p
      · rw [if_pos e2, if_pos (by omega), if_pos (by omega)]
        subst e2; rfl
      · rw [if_neg e2, revk_get xs k p hp]
        by_cases e3 : p < k ∨ xs.length - k ≤ p
        · rw [if_pos e3, if_pos (by omega)]
        · rw [if_neg e3, if_neg (by omega)]
  · rw [List.getElem?_eq_none (by simp [revk_len]; omega), List.getElem?_eq_none (by rw [revk_len]; omega)]

set_option maxRecDepth 100000 in
set_option maxHeartbeats 1000000 in
theorem slices_reverse {w : World} {base g n cap : Nat} {xs : List Int} (h : Row w base g n cap xs) (hs : n ≤ 100000) :
    Calls Try.prog 79 #[.slice (some ⟨g, 0, none⟩) n cap] w fun e w' => e = .returned (.tuple #[]) ∧ Row w' base g n cap xs.reverse ∧ Keep [g] w w' := by
  refine calls_abs fun R hR => ?_
  have H := Lib.hid h
  have hl := h.len
  have hfit := h.fits
  clear h
  by_cases hn0 : n = 0
  · subst hn0
    obtain rfl : xs = [] := List.eq_nil_of_length_eq_zero hl
    go_enter Try.func79, Try.ntmps79
    go_wp2_with fail
    go_loopg [2, 3] 0 (fun j i jj wr => i = .int .i64 0 ∧ jj = .int .i64 (-1) ∧ wr = w)
    case atStart => exact ⟨rfl, rfl, rfl⟩
    case round =>
      obtain ⟨rfl, rfl, rfl⟩ := hrel
      go_wp2_with fail
      refine bodyPost_end (v := .tuple #[]) ?_ rfl ?_
      · kernel_rfl
      exact hR.out _ _ ⟨rfl, H.out, Keep.refl _ _⟩
  have hw0 : IntKind.i64.wrap ((n : Int) - 1) = ((n - 1 : Nat) : Int) := by rw [IntKind.wrap_i64]; omega
  go_enter Try.func79, Try.ntmps79
  go_wp2_with fail
  go_loopg [2, 3] n (fun j i jj wr => ∃ k : Nat, k + j = n ∧ i = .int .i64 k ∧ jj = .int .i64 ((n - 1 - k : Nat) : Int) ∧ 2 * k ≤ n ∧ Row wr base g n cap (revk xs k) ∧ Keep [g] w wr)
  case atStart => exact ⟨0, by omega, rfl, by simp [hw0], by omega, by rw [revk_zero]; exact H.out, Keep.refl _ _⟩
  case round =>
    obtain ⟨k, hk, rfl, rfl, hk2, hrow, hkeep⟩ := hrel
    have HR := Lib.hid hrow; have HK := Lib.hid hkeep
    clear hrow hkeep hw0
    obtain ⟨q, hq⟩ : ∃ q : Nat, q + k + 1 = n := ⟨n - 1 - k, by omega⟩
    rw [show n - 1 - k = q from by omega]
    by_cases hlt : k < q
    · have i0 : (k : Int) < (q : Int) := by omega
      have hkl : k < xs.length := by omega
      have hql : q < xs.length := by omega
      have e1 : wr.cell? ⟨g, k, none⟩ = some (.int .i64 (xs.getD k 0)) := by
        rw [HR.out.cell k (by rw [revk_len]; omega)]
        have := revk_get xs k k hkl
        rw [List.getElem?_eq_getElem (by rw [revk_len]; omega), if_neg (by omega)] at this
        simpa using this
      have e2 : wr.cell? ⟨g, q, none⟩ = some (.int .i64 (xs.getD q 0)) := by
        rw [HR.out.cell q (by rw [revk_len]; omega)]
        have := revk_get xs k q hql
        rw [List.getElem?_eq_getElem (by rw [revk_len]; omega), if_neg (by omega)] at this
        simpa using this
      have f1 := HR.out.frozen
      have i1 : (0 : Int) ≤ (k : Int) := by omega
      have i2 : (k : Int) < (n : Int) := by omega
      have i3 : (0 : Int) ≤ (q : Int) := by omega
      have i4 : (q : Int) < (n : Int) := by omega
      have i6 : ¬ q = k := by omega
      have i7 : ¬ k = q := by omega
      have d1 : ∀ d, World.cell? ⟨wr.heap, wr.tape, d, wr.os, wr.output⟩ ⟨g, k, none⟩ = some (.int .i64 (xs.getD k 0)) := fun d => e1
      have d2 : ∀ d, World.cell? ⟨wr.heap, wr.tape, d, wr.os, wr.output⟩ ⟨g, q, none⟩ = some (.int .i64 (xs.getD q 0)) := fun d => e2
      have hw1 : IntKind.i64.wrap ((q : Int) - 1) = ((n - 1 - (k + 1) : Nat) : Int) := by rw [IntKind.wrap_i64]; omega
      have hst := revk_step xs k (by omega)
      rw [show xs.length - 1 - k = q from by omega] at hst
      generalize hx1 : xs.getD k 0 = x1 at e1 d1 hst
      generalize hx2 : xs.getD q 0 = x2 at e2 d2 hst
      have HST := Lib.hid hst
      clear hst
      have mixed : Try.prog.follows .mixedOrders = true := by kernel_rfl
      go_wp2_with fail
      go_region_o
      all_goals (
        go_wp2_with fail
        go_roundg (n - (k + 1))
        case measure => omega
        case rel =>
          refine ⟨k + 1, by omega, by go_num, by first | rfl | simp [hw1], by omega, ?_, ?_⟩
          · have h1 := ((HR.out.keep (S := []) (w' := wr.drew) (by repeat (first | (with_reducible exact Keep.refl _ _) | (with_reducible refine Keep.drew ?_) | (with_reducible refine Keep.drewN ?_ _) | (with_reducible refine Keep.alloc ?_ _) | (with_reducible refine Keep.setCell ?_ (by first | (simp; done) | (simp; omega) | (left; dsimp only; omega)) _))) (by simp)).set k x2 (by omega)).set q x1 (by omega)
            rw [HST.out] at h1
            exact h1
          · ((repeat (first | (with_reducible exact HK.out) | (with_reducible refine Keep.drew ?_) | (with_reducible refine Keep.drewN ?_ _) | (with_reducible refine Keep.alloc ?_ _) | ((with_reducible refine Keep.setCell ?_ ?_ _); rotate_left; focus (first | (simp; done) | (simp; omega) | (left; dsimp only; omega))))); done))
    · have i0 : ¬ (k : Int) < (q : Int) := by omega
      go_wp2_with fail
      refine bodyPost_end (v := .tuple #[]) ?_ rfl ?_
      · kernel_rfl
      exact hR.out _ _ ⟨rfl, by have := HR.out; rwa [revk_all xs k (by omega)] at this, HK.out⟩
end Go.Proofs.Ytgdbccficcgbdaa
