/- The contracts of package roots. -/
import Derived.Test.YtgdbccficcgbdaaProg
import Derived.Test.YtgdbccficcgbdaaLib
import Derived.Test.YtgdbccficcgbdaaStack
import Derived.Test.YtgdbccficcgbdaaArena
import Derived.WalkSpells
import Derived.BigQuiet
import Derived.Deep.QuietTactic
import Derived.StillTailTactics
import Derived.Laws.CopyOwn
import Derived.Laws.Pointers
namespace Go.Proofs.Ytgdbccficcgbdaa
open Go.RowKit
set_option linter.unusedVariables false
set_option linter.unusedSimpArgs false

/-- Roots at block b: S its slots, K its stack. -/
structure Rts (w : World) (b : Nat) (S K : List Int) : Prop where
  row : ∃ c : Array Value, w.heap[b]? = some (.cells c 122 (0, 0)) ∧ c.size = 26 ∧ (∀ (i : Nat) (x : Int), S[i]? = some x → c[i]? = some (Value.int .i64 x)) ∧ c[8]? = some (.int .i64 S.length) ∧
    (∀ (i : Nat) (x : Int), K[i]? = some x → c[9 + i]? = some (Value.int .i64 x)) ∧ c[25]? = some (.int .i64 K.length)
  slots : S.length ≤ 8
  deep : K.length ≤ 16

theorem Rts.keep {T : List Nat} {w w' : World} {b : Nat} {S K : List Int} (h : Rts w b S K) (k : Keep T w w') (hb : b ∉ T) : Rts w' b S K := by
  obtain ⟨c, h1, h2⟩ := h.row
  exact ⟨⟨c, k.get h1 hb, h2⟩, h.slots, h.deep⟩
theorem Rts.lt {w : World} {b : Nat} {S K : List Int} (h : Rts w b S K) : b < w.heap.size := by
  obtain ⟨c, h1, h2⟩ := h.row
  exact lt_of_block h1
theorem Rts.n {w : World} {b : Nat} {S K : List Int} (h : Rts w b S K) : w.cell? ⟨b, 8, none⟩ = some (.int .i64 S.length) := by
  obtain ⟨c, h1, _, _, h2, _⟩ := h.row
  rw [cell_at h1, h2]
theorem Rts.d {w : World} {b : Nat} {S K : List Int} (h : Rts w b S K) : w.cell? ⟨b, 25, none⟩ = some (.int .i64 K.length) := by
  obtain ⟨c, h1, _, _, _, _, h2⟩ := h.row
  rw [cell_at h1, h2]
theorem Rts.s {w : World} {b : Nat} {S K : List Int} (h : Rts w b S K) (i : Nat) (hi : i < S.length) : w.cell? ⟨b, i, none⟩ = some (.int .i64 S[i]) := by
  obtain ⟨c, h1, _, h2, _⟩ := h.row
  rw [cell_at h1]
  exact h2 i _ (List.getElem?_eq_getElem hi)
theorem Rts.k {w : World} {b : Nat} {S K : List Int} (h : Rts w b S K) (i : Nat) (hi : i < K.length) : w.cell? ⟨b, 9 + i, none⟩ = some (.int .i64 K[i]) := by
  obtain ⟨c, h1, _, _, _, h2, _⟩ := h.row
  rw [cell_at h1]
  exact h2 i _ (List.getElem?_eq_getElem hi)
theorem Rts.any {w : World} {b : Nat} {S K : List Int} (h : Rts w b S K) (i : Nat) (hi : i < 26) : ∃ v, w.cell? ⟨b, i, none⟩ = some v := by
  obtain ⟨c, h1, h2, _⟩ := h.row
  rw [cell_at h1]
  exact ⟨_, Array.getElem?_eq_getElem (by omega)⟩
theorem Rts.f {w : World} {b : Nat} {S K : List Int} (h : Rts w b S K) (i : Nat) : w.frozen? ⟨b, i, none⟩ = false := by
  obtain ⟨c, h1, _⟩ := h.row
  exact frozen_at h1 i
theorem Rts.set {w : World} {b : Nat} {S K : List Int} (h : Rts w b S K) (i : Nat) (hi : i < S.length) (x : Int) : Rts (w.setCell ⟨b, i, none⟩ (.int .i64 x)) b (S.set i x) K := by
  obtain ⟨c, h1, h2, h3, h4, h5, h6⟩ := h.row
  have hs := h.slots
  refine ⟨⟨_, put_at h1 i _, by simpa using h2, fun j y hy => ?_, ?_, fun j y hy => ?_, ?_⟩, by simpa using h.slots, h.deep⟩
  · rw [Array.getElem?_setIfInBounds]
    rw [List.getElem?_set] at hy
    split
    · rename_i e; rw [if_pos e] at hy; subst e; rw [if_pos hi] at hy; cases hy; rw [if_pos (by omega)]
    · rename_i e; rw [if_neg e] at hy; exact h3 j y hy
  · rw [Array.getElem?_setIfInBounds, if_neg (by omega), h4, List.length_set]
  · rw [Array.getElem?_setIfInBounds, if_neg (by omega), h5 j y hy]
  · rw [Array.getElem?_setIfInBounds, if_neg (by omega), h6]
theorem Rts.push {w : World} {b : Nat} {S K : List Int} (h : Rts w b S K) (x : Int) (hk : K.length < 16) : Rts ((w.setCell ⟨b, 9 + K.length, none⟩ (.int .i64 x)).setCell ⟨b, 25, none⟩ (.int .i64 (K.length + 1))) b S (K ++ [x]) := by
  obtain ⟨c, h1, h2, h3, h4, h5, h6⟩ := h.row
  have hs := h.slots
  refine ⟨⟨_, put_at (put_at h1 _ _) _ _, by simpa using h2, fun j y hy => ?_, ?_, fun j y hy => ?_, ?_⟩, h.slots, by simp; omega⟩
  · have : j < S.length := (List.getElem?_eq_some_iff.1 hy).1
    rw [Array.getElem?_setIfInBounds, if_neg (by omega), Array.getElem?_setIfInBounds, if_neg (by omega)]
    exact h3 j y hy
  · rw [Array.getElem?_setIfInBounds, if_neg (by omega), Array.getElem?_setIfInBounds, if_neg (by omega), h4]
  · have hj : j < (K ++ [x]).length := (List.getElem?_eq_some_iff.1 hy).1
    simp at hj
    rw [Array.getElem?_setIfInBounds, if_neg (by omega), Array.getElem?_setIfInBounds]
    split
    · rename_i e
      have : j = K.length := by omega
      subst this
      simp at hy
      rw [if_pos (by omega), hy]
    · rename_i e
      exact h5 j y (by rwa [List.getElem?_append_left (by omega)] at hy)
  · rw [Array.getElem?_setIfInBounds, if_pos rfl, if_pos (by simp; omega)]
    simp
theorem Rts.pop {w : World} {b : Nat} {S K : List Int} {x : Int} (h : Rts w b S (K ++ [x])) : Rts (w.setCell ⟨b, 25, none⟩ (.int .i64 K.length)) b S K := by
  obtain ⟨c, h1, h2, h3, h4, h5, h6⟩ := h.row
  have hs := h.slots
  have hd := h.deep
  simp at hd
  refine ⟨⟨_, put_at h1 _ _, by simpa using h2, fun j y hy => ?_, ?_, fun j y hy => ?_, ?_⟩, h.slots, by omega⟩
  · have : j < S.length := (List.getElem?_eq_some_iff.1 hy).1
    rw [Array.getElem?_setIfInBounds, if_neg (by omega)]
    exact h3 j y hy
  · rw [Array.getElem?_setIfInBounds, if_neg (by omega), h4]
  · have hj : j < K.length := (List.getElem?_eq_some_iff.1 hy).1
    rw [Array.getElem?_setIfInBounds, if_neg (by omega)]
    exact h5 j y (by rwa [List.getElem?_append_left hj])
  · rw [Array.getElem?_setIfInBounds, if_pos rfl, if_pos (by omega)]

theorem roots_new_bad (n : Int) (h : n < 1 ∨ 8 < n) (w : World) :
    Calls Try.prog 39 #[.int .i64 n] w fun e w' => e = .returned (.tuple #[.pointer none, .int .i64 2]) ∧ w' = w := by
  refine calls_abs fun R hR => ?_
  rcases h with h | h
  · go_enter Try.func39, Try.ntmps39
    go_wp2
    exact hR.out _ _ ⟨rfl, rfl⟩
  · have h1 : ¬ n < 1 := by omega
    go_enter Try.func39, Try.ntmps39
    go_wp2
    exact hR.out _ _ ⟨rfl, rfl⟩

theorem roots_new (n : Int) (m : Nat) (hn : n = m) (h1 : 1 ≤ m) (h2 : m ≤ 8) (w : World) :
    Calls Try.prog 39 #[.int .i64 n] w fun e w' => ∃ b, e = .returned (.tuple #[.pointer (some ⟨b, 0, none⟩), .int .i64 0]) ∧ Rts w' b (List.replicate m 0) [] ∧ Keep [] w w' ∧ w.heap.size ≤ b := by
  subst hn
  refine calls_abs fun R hR => ?_
  have n1 : ¬ (m : Int) < 1 := by omega
  have n2 : ¬ (8 : Int) < (m : Int) := by omega
  go_enter Try.func39, Try.ntmps39
  go_wp2
  refine hR.out _ _ ⟨_, rfl, ⟨⟨_, alloc_new _ _ _ rfl, by simp, fun i x hx => ?_, by simp, by simp, by simp⟩, by simpa using h2, by simp⟩, (by repeat (first | (with_reducible exact Keep.refl _ _) | (with_reducible refine Keep.drew ?_) | (with_reducible refine Keep.drewN ?_ _) | (with_reducible refine Keep.alloc ?_ _) | (with_reducible refine Keep.setCell ?_ (by first | (simp; done) | (simp; omega) | (left; dsimp only; omega)) _))), Nat.le_refl _⟩
  obtain ⟨hi, hx⟩ := List.getElem?_eq_some_iff.1 hx
  simp at hi hx
  subst hx
  have : i < 8 := by omega
  match i, this with
  | 0, _ | 1, _ | 2, _ | 3, _ | 4, _ | 5, _ | 6, _ | 7, _ => rfl

theorem roots_slot_nil (i : Int) (w : World) : Calls Try.prog 72 #[.pointer none, .int .i64 i] w fun e w' => e = .returned (.tuple #[.pointer none, .int .i64 1]) ∧ w' = w := by
  refine calls_abs fun R hR => ?_
  go_enter Try.func72, Try.ntmps72
  go_wp2
  exact hR.out _ _ ⟨rfl, rfl⟩
theorem roots_slot_bad {w : World} {b : Nat} {S K : List Int} (h : Rts w b S K) (i : Int) (hi : i < 0 ∨ S.length ≤ i) : Calls Try.prog 72 #[.pointer (some ⟨b, 0, none⟩), .int .i64 i] w fun e w' => e = .returned (.tuple #[.pointer none, .int .i64 2]) ∧ w' = w := by
  refine calls_abs fun R hR => ?_
  have c := h.n
  clear h
  rcases hi with hi | hi
  · go_enter Try.func72, Try.ntmps72
    go_wp2
    exact hR.out _ _ ⟨rfl, rfl⟩
  · have n1 : ¬ i < 0 := by omega
    go_enter Try.func72, Try.ntmps72
    go_wp2
    exact hR.out _ _ ⟨rfl, rfl⟩
theorem roots_slot {w : World} {b : Nat} {S K : List Int} (h : Rts w b S K) (n : Int) (i : Nat) (hn : n = i) (hi : i < S.length) : Calls Try.prog 72 #[.pointer (some ⟨b, 0, none⟩), .int .i64 n] w fun e w' => e = .returned (.tuple #[.pointer (some ⟨b, i, none⟩), .int .i64 0]) ∧ w' = w := by
  subst hn
  refine calls_abs fun R hR => ?_
  have c := h.n
  have hs := h.slots
  have n1 : ¬ (i : Int) < 0 := by omega
  have n2 : ¬ (S.length : Int) ≤ (i : Int) := by omega
  have n3 : (i : Int) < 8 := by omega
  clear h
  go_enter Try.func72, Try.ntmps72
  go_wp2
  exact hR.out _ _ ⟨rfl, rfl⟩

theorem roots_get_nil (i : Int) (w : World) : Calls Try.prog 43 #[.pointer none, .int .i64 i] w fun e w' => e = .returned (.tuple #[.int .i64 0, .int .i64 1]) ∧ w' = w := by
  refine calls_abs fun R hR => ?_
  go_enter Try.func43, Try.ntmps43
  go_wp2_with (go_at_call 72; refine Calls.mono (roots_slot_nil _ _) ?_; rintro e w' ⟨rfl, rfl⟩)
  exact hR.out _ _ ⟨rfl, rfl⟩
theorem roots_get_bad {w : World} {b : Nat} {S K : List Int} (h : Rts w b S K) (i : Int) (hi : i < 0 ∨ S.length ≤ i) : Calls Try.prog 43 #[.pointer (some ⟨b, 0, none⟩), .int .i64 i] w fun e w' => e = .returned (.tuple #[.int .i64 0, .int .i64 2]) ∧ w' = w := by
  refine calls_abs fun R hR => ?_
  have H := Lib.hid (roots_slot_bad h i hi)
  clear h hi
  go_enter Try.func43, Try.ntmps43
  go_wp2_with (go_at_call 72; refine Calls.mono H.out ?_; rintro e w' ⟨rfl, rfl⟩)
  exact hR.out _ _ ⟨rfl, rfl⟩
theorem roots_get {w : World} {b : Nat} {S K : List Int} (h : Rts w b S K) (n : Int) (i : Nat) (hn : n = i) (hi : i < S.length) : Calls Try.prog 43 #[.pointer (some ⟨b, 0, none⟩), .int .i64 n] w fun e w' => e = .returned (.tuple #[.int .i64 S[i], .int .i64 0]) ∧ w' = w := by
  subst hn
  refine calls_abs fun R hR => ?_
  have H := Lib.hid (roots_slot h i i rfl hi)
  have c := h.s i hi
  clear h
  go_enter Try.func43, Try.ntmps43
  go_wp2_with (go_at_call 72; refine Calls.mono H.out ?_; rintro e w' ⟨rfl, rfl⟩)
  exact hR.out _ _ ⟨rfl, rfl⟩

theorem roots_set_nil (i x : Int) (w : World) : Calls Try.prog 40 #[.pointer none, .int .i64 i, .int .i64 x] w fun e w' => e = .returned (.int .i64 1) ∧ w' = w := by
  refine calls_abs fun R hR => ?_
  go_enter Try.func40, Try.ntmps40
  go_wp2_with (go_at_call 72; refine Calls.mono (roots_slot_nil _ _) ?_; rintro e w' ⟨rfl, rfl⟩)
  exact hR.out _ _ ⟨rfl, rfl⟩
theorem roots_set_bad {w : World} {b : Nat} {S K : List Int} (h : Rts w b S K) (i x : Int) (hi : i < 0 ∨ S.length ≤ i) : Calls Try.prog 40 #[.pointer (some ⟨b, 0, none⟩), .int .i64 i, .int .i64 x] w fun e w' => e = .returned (.int .i64 2) ∧ w' = w := by
  refine calls_abs fun R hR => ?_
  have H := Lib.hid (roots_slot_bad h i hi)
  clear h hi
  go_enter Try.func40, Try.ntmps40
  go_wp2_with (go_at_call 72; refine Calls.mono H.out ?_; rintro e w' ⟨rfl, rfl⟩)
  exact hR.out _ _ ⟨rfl, rfl⟩
theorem roots_set_neg {w : World} {b : Nat} {S K : List Int} (h : Rts w b S K) (n x : Int) (i : Nat) (hn : n = i) (hi : i < S.length) (hx : x < 0) : Calls Try.prog 40 #[.pointer (some ⟨b, 0, none⟩), .int .i64 n, .int .i64 x] w fun e w' => e = .returned (.int .i64 2) ∧ w' = w := by
  subst hn
  refine calls_abs fun R hR => ?_
  have H := Lib.hid (roots_slot h i i rfl hi)
  clear h
  go_enter Try.func40, Try.ntmps40
  go_wp2_with (go_at_call 72; refine Calls.mono H.out ?_; rintro e w' ⟨rfl, rfl⟩)
  exact hR.out _ _ ⟨rfl, rfl⟩
theorem roots_set {w : World} {b : Nat} {S K : List Int} (h : Rts w b S K) (n x : Int) (i : Nat) (hn : n = i) (hi : i < S.length) (hx : 0 ≤ x) : Calls Try.prog 40 #[.pointer (some ⟨b, 0, none⟩), .int .i64 n, .int .i64 x] w fun e w' => e = .returned (.int .i64 0) ∧ Rts w' b (S.set i x) K ∧ Keep [b] w w' := by
  subst hn
  refine calls_abs fun R hR => ?_
  have H := Lib.hid (roots_slot h i i rfl hi)
  have c := h.s i hi
  have f := h.f i
  have HS := Lib.hid (h.set i hi x)
  have n1 : ¬ x < 0 := by omega
  clear h
  go_enter Try.func40, Try.ntmps40
  go_wp2_with (go_at_call 72; refine Calls.mono H.out ?_; rintro e w' ⟨rfl, rfl⟩)
  exact hR.out _ _ ⟨rfl, HS.out, (by repeat (first | (with_reducible exact Keep.refl _ _) | (with_reducible refine Keep.drew ?_) | (with_reducible refine Keep.drewN ?_ _) | (with_reducible refine Keep.alloc ?_ _) | (with_reducible refine Keep.setCell ?_ (by first | (simp; done) | (simp; omega) | (left; dsimp only; omega)) _)))⟩

theorem roots_push_nil (i : Int) (w : World) : Calls Try.prog 41 #[.pointer none, .int .i64 i] w fun e w' => e = .returned (.int .i64 1) ∧ w' = w := by
  refine calls_abs fun R hR => ?_
  go_enter Try.func41, Try.ntmps41
  go_wp2_with (go_at_call 72; refine Calls.mono (roots_slot_nil _ _) ?_; rintro e w' ⟨rfl, rfl⟩)
  exact hR.out _ _ ⟨rfl, rfl⟩
theorem roots_push_bad {w : World} {b : Nat} {S K : List Int} (h : Rts w b S K) (i : Int) (hi : i < 0 ∨ S.length ≤ i) : Calls Try.prog 41 #[.pointer (some ⟨b, 0, none⟩), .int .i64 i] w fun e w' => e = .returned (.int .i64 2) ∧ w' = w := by
  refine calls_abs fun R hR => ?_
  have H := Lib.hid (roots_slot_bad h i hi)
  clear h hi
  go_enter Try.func41, Try.ntmps41
  go_wp2_with (go_at_call 72; refine Calls.mono H.out ?_; rintro e w' ⟨rfl, rfl⟩)
  exact hR.out _ _ ⟨rfl, rfl⟩
theorem roots_push_full {w : World} {b : Nat} {S K : List Int} (h : Rts w b S K) (n : Int) (i : Nat) (hn : n = i) (hi : i < S.length) (hk : K.length = 16) : Calls Try.prog 41 #[.pointer (some ⟨b, 0, none⟩), .int .i64 n] w fun e w' => e = .returned (.int .i64 4) ∧ w' = w := by
  subst hn
  refine calls_abs fun R hR => ?_
  have H := Lib.hid (roots_slot h i i rfl hi)
  have c := h.d
  rw [hk] at c
  clear h hk
  go_enter Try.func41, Try.ntmps41
  go_wp2_with (go_at_call 72; refine Calls.mono H.out ?_; rintro e w' ⟨rfl, rfl⟩)
  exact hR.out _ _ ⟨rfl, rfl⟩
theorem roots_push {w : World} {b : Nat} {S K : List Int} (h : Rts w b S K) (n : Int) (i : Nat) (hn : n = i) (hi : i < S.length) (hk : K.length < 16) : Calls Try.prog 41 #[.pointer (some ⟨b, 0, none⟩), .int .i64 n] w fun e w' => e = .returned (.int .i64 0) ∧ Rts w' b S (K ++ [S[i]]) ∧ Keep [b] w w' := by
  subst hn
  refine calls_abs fun R hR => ?_
  have H := Lib.hid (roots_slot h i i rfl hi)
  have c := h.d
  have cs := h.s i hi
  have f := h.f
  obtain ⟨v, cv⟩ := h.any (9 + K.length) (by omega)
  have HS := Lib.hid (h.push S[i] hk)
  have n1 : ((K.length : Int) == 16) = false := by simp; omega
  have n2 : (0 : Int) ≤ (K.length : Int) := by omega
  have n3 : (K.length : Int) < 16 := by omega
  have hsl := h.slots
  have n4 : ¬ 9 + K.length = 25 := by omega
  have n5 : ¬ i = 25 := by omega
  clear h
  go_enter Try.func41, Try.ntmps41
  go_wp2_with (go_at_call 72; refine Calls.mono H.out ?_; rintro e w' ⟨rfl, rfl⟩)
  go_region
  go_wp2_with fail
  refine hR.out _ _ ⟨rfl, HS.out.keep (T := []) ?_ List.not_mem_nil, ?_⟩
  · exact (by repeat (first | (with_reducible exact Keep.refl _ _) | (with_reducible refine Keep.drew ?_) | (with_reducible refine Keep.drewN ?_ _) | (with_reducible refine Keep.alloc ?_ _) | (with_reducible refine Keep.setCell ?_ (by first | (simp; done) | (simp; omega) | (left; dsimp only; omega)) _)))
  · exact (by repeat (first | (with_reducible exact Keep.refl _ _) | (with_reducible refine Keep.drew ?_) | (with_reducible refine Keep.drewN ?_ _) | (with_reducible refine Keep.alloc ?_ _) | (with_reducible refine Keep.setCell ?_ (by first | (simp; done) | (simp; omega) | (left; dsimp only; omega)) _)))

theorem roots_pop_nil (i : Int) (w : World) : Calls Try.prog 42 #[.pointer none, .int .i64 i] w fun e w' => e = .returned (.int .i64 1) ∧ w' = w := by
  refine calls_abs fun R hR => ?_
  go_enter Try.func42, Try.ntmps42
  go_wp2_with (go_at_call 72; refine Calls.mono (roots_slot_nil _ _) ?_; rintro e w' ⟨rfl, rfl⟩)
  exact hR.out _ _ ⟨rfl, rfl⟩
theorem roots_pop_bad {w : World} {b : Nat} {S K : List Int} (h : Rts w b S K) (i : Int) (hi : i < 0 ∨ S.length ≤ i) : Calls Try.prog 42 #[.pointer (some ⟨b, 0, none⟩), .int .i64 i] w fun e w' => e = .returned (.int .i64 2) ∧ w' = w := by
  refine calls_abs fun R hR => ?_
  have H := Lib.hid (roots_slot_bad h i hi)
  clear h hi
  go_enter Try.func42, Try.ntmps42
  go_wp2_with (go_at_call 72; refine Calls.mono H.out ?_; rintro e w' ⟨rfl, rfl⟩)
  exact hR.out _ _ ⟨rfl, rfl⟩
theorem roots_pop_none {w : World} {b : Nat} {S : List Int} (h : Rts w b S []) (n : Int) (i : Nat) (hn : n = i) (hi : i < S.length) : Calls Try.prog 42 #[.pointer (some ⟨b, 0, none⟩), .int .i64 n] w fun e w' => e = .returned (.int .i64 5) ∧ w' = w := by
  subst hn
  refine calls_abs fun R hR => ?_
  have H := Lib.hid (roots_slot h i i rfl hi)
  have c := h.d
  simp at c
  clear h
  go_enter Try.func42, Try.ntmps42
  go_wp2_with (go_at_call 72; refine Calls.mono H.out ?_; rintro e w' ⟨rfl, rfl⟩)
  exact hR.out _ _ ⟨rfl, rfl⟩
theorem roots_pop {w : World} {b : Nat} {S K : List Int} {x : Int} (h : Rts w b S (K ++ [x])) (n : Int) (i : Nat) (hn : n = i) (hi : i < S.length) : Calls Try.prog 42 #[.pointer (some ⟨b, 0, none⟩), .int .i64 n] w fun e w' => e = .returned (.int .i64 0) ∧ Rts w' b (S.set i x) K ∧ Keep [b] w w' := by
  subst hn
  refine calls_abs fun R hR => ?_
  have H := Lib.hid (roots_slot h i i rfl hi)
  have c := h.d
  have ck := h.k K.length (by simp)
  have cs := h.s i hi
  have f := h.f
  have hd := h.deep
  have HS := Lib.hid (h.pop.set i hi x)
  simp at c ck hd
  have n0 : (K.length : Int) + 1 - 1 = K.length := by omega
  have n1 : ((K.length : Int) + 1 == 0) = false := by simp; omega
  have n2 : (0 : Int) ≤ (K.length : Int) := by omega
  have n3 : (K.length : Int) < 16 := by omega
  have hsl := h.slots
  have n4 : ¬ 9 + K.length = 25 := by omega
  have n5 : ¬ i = 25 := by omega
  clear h
  go_enter Try.func42, Try.ntmps42
  go_wp2_with (go_at_call 72; refine Calls.mono H.out ?_; rintro e w' ⟨rfl, rfl⟩)
  go_region
  go_wp2_with fail
  refine hR.out _ _ ⟨rfl, HS.out.keep (T := []) ?_ List.not_mem_nil, ?_⟩
  · exact (by repeat (first | (with_reducible exact Keep.refl _ _) | (with_reducible refine Keep.drew ?_) | (with_reducible refine Keep.drewN ?_ _) | (with_reducible refine Keep.alloc ?_ _) | (with_reducible refine Keep.setCell ?_ (by first | (simp; done) | (simp; omega) | (left; dsimp only; omega)) _)))
  · exact (by repeat (first | (with_reducible exact Keep.refl _ _) | (with_reducible refine Keep.drew ?_) | (with_reducible refine Keep.drewN ?_ _) | (with_reducible refine Keep.alloc ?_ _) | (with_reducible refine Keep.setCell ?_ (by first | (simp; done) | (simp; omega) | (left; dsimp only; omega)) _)))

theorem roots_slots_nil (w : World) : Calls Try.prog 51 #[.pointer none] w fun e w' => e = .returned (.int .i64 0) ∧ w' = w := by
  refine calls_abs fun R hR => ?_
  go_enter Try.func51, Try.ntmps51
  go_wp2
  exact hR.out _ _ ⟨rfl, rfl⟩
theorem roots_slots {w : World} {b : Nat} {S K : List Int} (h : Rts w b S K) : Calls Try.prog 51 #[.pointer (some ⟨b, 0, none⟩)] w fun e w' => e = .returned (.int .i64 S.length) ∧ w' = w := by
  refine calls_abs fun R hR => ?_
  have c := h.n
  go_enter Try.func51, Try.ntmps51
  go_wp2
  exact hR.out _ _ ⟨rfl, rfl⟩
theorem roots_depth_nil (w : World) : Calls Try.prog 44 #[.pointer none] w fun e w' => e = .returned (.int .i64 0) ∧ w' = w := by
  refine calls_abs fun R hR => ?_
  go_enter Try.func44, Try.ntmps44
  go_wp2
  exact hR.out _ _ ⟨rfl, rfl⟩
theorem roots_depth {w : World} {b : Nat} {S K : List Int} (h : Rts w b S K) : Calls Try.prog 44 #[.pointer (some ⟨b, 0, none⟩)] w fun e w' => e = .returned (.int .i64 K.length) ∧ w' = w := by
  refine calls_abs fun R hR => ?_
  have c := h.d
  go_enter Try.func44, Try.ntmps44
  go_wp2
  exact hR.out _ _ ⟨rfl, rfl⟩
theorem roots_stack_nil (w : World) : Calls Try.prog 52 #[.pointer none] w fun e w' => e = .returned (.slice none 0 0) ∧ w' = w := by
  refine calls_abs fun R hR => ?_
  go_enter Try.func52, Try.ntmps52
  go_wp2
  exact hR.out _ _ ⟨rfl, rfl⟩
theorem roots_all_nil (w : World) : Calls Try.prog 49 #[.pointer none] w fun e w' => e = .returned (.slice none 0 0) ∧ w' = w := by
  refine calls_abs fun R hR => ?_
  go_enter Try.func49, Try.ntmps49
  go_wp2
  exact hR.out _ _ ⟨rfl, rfl⟩

theorem size_int : (Try.prog.info? 3).map (·.size) = some 1 := by kernel_rfl
theorem Keep.below_self {w w' : World} (h : Keep [] w w') : Below w.heap.size w w' := h.below (Nat.le_refl _) (by simp)
theorem make_int (n : Nat) (h : n ≤ 4096) (w : World) : (Instr.makeSlice 28 (.int .i64 n) (.int .i64 n)).run Try.prog w = .ok (.slice (some ⟨w.heap.size, 0, none⟩) n n) (w.alloc (.cells (List.replicate n (Value.int .i64 0)).toArray 3)) := by
  obtain ⟨i0, hi, hz0, hz1, hz2⟩ := info_parts Try.info3
  have h := run_make (P := Try.prog) w 28 3 i0 _ Try.underlying28 hi hz0 .i64 .i64 n n (by omega) (by omega) (by rw [hz2]; omega) (by omega)
  simp only [Int.toNat_natCast, hz1, Nat.mul_one] at h
  rw [h, show (Value.int .i64 0).cells = #[.int .i64 0] from rfl, made_cellsOf]
  simp [cellsOf]

set_option maxRecDepth 10000 in
theorem roots_stack {w : World} {b : Nat} {S K : List Int} (h : Rts w b S K) : Calls Try.prog 52 #[.pointer (some ⟨b, 0, none⟩)] w fun e w' =>
    ∃ v, e = .returned v ∧ Rd w' v K.length (K.map (.int .i64 ·)) ∧ Keep [] w w' := by
  refine calls_abs fun R hR => ?_
  have c := h.d
  have f := h.f
  have hd := h.deep
  have n2 : ¬ (K.length : Int) < 0 := by omega
  have n3 : ¬ (16 : Int) < (K.length : Int) := by omega
  have H := Lib.hid h
  have hlt := h.lt
  have hmk := fun w => make_int K.length (by omega) w
  clear h
  go_enter Try.func52, Try.ntmps52
  go_wp2_with fail
  generalize hw1 : World.alloc w _ = w1
  have hb1 : w1.heap[w.heap.size]? = some (.cells (List.replicate K.length (Value.int .i64 0)).toArray 3 (0, 0)) := by
    rw [← hw1]; exact alloc_new _ _ _ (by simp)
  have K1 : Keep [] w w1 := by rw [← hw1]; exact (by repeat (first | (with_reducible exact Keep.refl _ _) | (with_reducible refine Keep.drew ?_) | (with_reducible refine Keep.drewN ?_ _) | (with_reducible refine Keep.alloc ?_ _) | (with_reducible refine Keep.setCell ?_ (by first | (simp; done) | (simp; omega) | (left; dsimp only; omega)) _)))
  clear hw1
  have H1 := Lib.hid (H.out.keep K1 List.not_mem_nil)
  have c1 : ∀ d, World.cell? ⟨w1.heap, w1.tape, d, w1.os, w1.output⟩ ⟨b, 25, none⟩ = some (.int .i64 K.length) := fun d => H1.out.d
  go_still_tail 9, (by kernel_rfl)
  change wpList _ _ _ _ _ w1.drew
  refine wpList_copy_splice rfl (.tmp 11) (.tmp 19) 28 28 rfl 3 Try.underlying28 size_int _ _ _ _ _ _ rfl rfl w.heap.size 0 (List.replicate K.length (Value.int .i64 0)) 3 hb1 (K.map (Value.int .i64 ·)) (by simp) (fun hp => ⟨rfl, _, rfl, fun j v hj => ?_⟩) (by simp) (by simp [Value.oneCell']) w.heap.size w (Keep.drew K1).below_self (Nat.le_refl _) ?_
  · obtain ⟨hj1, rfl⟩ := List.getElem?_eq_some_iff.1 hj
    simp at hj1
    change w1.cell? _ = _
    rw [show Addr.add _ _ = (⟨b, 9 + j, none⟩ : Addr) from by simp [Addr.add]]
    simpa using H1.out.k j hj1
  intro w2 hw2 b2
  have h2 := hw2.out
  simp [splice] at h2
  have K2 := Keep.of_below b2
  go_wp2_with fail
  refine hR.out _ _ ⟨_, rfl, ?_, K2⟩
  exact ⟨_, _, rfl, Nat.le_refl _, by simp [maxLen]; omega, by simp, by simp [Value.oneCell'], fun a ha i u hu => by cases ha; rw [show Addr.add _ _ = (⟨w.heap.size, i, none⟩ : Addr) from by simp [Addr.add]; omega, cell_at h2]; simpa using hu⟩

def RootsAllInv (w w3 : World) (X : List Int) (v i : Value) (wr : World) : Prop :=
  ∃ (k : Nat) (L : List Int), k ≤ X.length ∧ i = .int .i64 k ∧ L = (X.take k).filter (· != 0) ∧ wr.ownsRow w3.heap.size 3 1 v L.length (L.map (Value.int .i64)) ∧
    Keep [] w wr ∧ Keep [] w3 wr

set_option maxRecDepth 10000 in
theorem roots_all {w : World} {b : Nat} {S K : List Int} (h : Rts w b S K) : Calls Try.prog 49 #[.pointer (some ⟨b, 0, none⟩)] w fun e w' =>
    ∃ v L, e = .returned v ∧ L = (S ++ K).filter (· != 0) ∧ Rd w' v L.length (L.map (.int .i64 ·)) ∧ Keep [] w w' := by
  refine calls_abs fun R hR => ?_
  have c := h.d
  have cn := h.n
  have f := h.f
  have hd := h.deep
  have hs := h.slots
  have n1 : ¬ (S.length : Int) < 0 := by omega
  have n2 : ¬ (K.length : Int) < 0 := by omega
  have n3 : ¬ (16 : Int) < (K.length : Int) := by omega
  have n4 : ¬ (8 : Int) < (S.length : Int) := by omega
  have n5 : (S.length : Int) ≤ (S.length : Int) + (K.length : Int) := by omega
  have H := Lib.hid h
  have hlt := h.lt
  have hmk : ∀ w, (Instr.makeSlice 28 (.int .i64 ((S.length : Int) + K.length)) (.int .i64 ((S.length : Int) + K.length))).run Try.prog w = _ := fun w => make_int (S.length + K.length) (by omega) w
  clear h
  go_enter Try.func49, Try.ntmps49
  go_wp2_with fail
  have c1 : ∀ d, World.cell? ⟨w.heap, w.tape, d, w.os, w.output⟩ ⟨b, 25, none⟩ = some (.int .i64 K.length) := fun d => c
  have cn1 : ∀ d, World.cell? ⟨w.heap, w.tape, d, w.os, w.output⟩ ⟨b, 8, none⟩ = some (.int .i64 S.length) := fun d => cn
  go_still_tail 9, (by kernel_rfl)
  change wpList _ _ _ _ _ w.drew
  generalize hw1 : World.drew w = w1
  have K1 : Keep [] w w1 := by rw [← hw1]; exact (by repeat (first | (with_reducible exact Keep.refl _ _) | (with_reducible refine Keep.drew ?_) | (with_reducible refine Keep.drewN ?_ _) | (with_reducible refine Keep.alloc ?_ _) | (with_reducible refine Keep.setCell ?_ (by first | (simp; done) | (simp; omega) | (left; dsimp only; omega)) _)))
  clear hw1 c1 cn1
  go_wp2_with fail
  rw [hmk]
  go_wp2_with fail
  generalize hw2 : World.alloc w1 _ = w2
  have hb2 : w2.heap[w1.heap.size]? = some (.cells (List.replicate (S.length + K.length) (Value.int .i64 0)).toArray 3 (0, 0)) := by
    rw [← hw2]; exact alloc_new _ _ _ (by simp)
  have K2 : Keep [] w w2 := by rw [← hw2]; exact (by repeat (first | (with_reducible exact K1) | (with_reducible refine Keep.drew ?_) | (with_reducible refine Keep.drewN ?_ _) | (with_reducible refine Keep.alloc ?_ _) | (with_reducible refine Keep.setCell ?_ (by first | (simp; done) | (simp; omega) | (left; dsimp only; omega)) _)))
  have K12 : Keep [] w1 w2 := by rw [← hw2]; exact (by repeat (first | (with_reducible exact Keep.refl _ _) | (with_reducible refine Keep.drew ?_) | (with_reducible refine Keep.drewN ?_ _) | (with_reducible refine Keep.alloc ?_ _) | (with_reducible refine Keep.setCell ?_ (by first | (simp; done) | (simp; omega) | (left; dsimp only; omega)) _)))
  have hsz2 : w2.heap.size = w1.heap.size + 1 := by rw [← hw2]; exact Array.size_push _
  clear hw2
  have H2 := Lib.hid (H.out.keep K2 List.not_mem_nil)
  have c2 : ∀ d, World.cell? ⟨w2.heap, w2.tape, d, w2.os, w2.output⟩ ⟨b, 25, none⟩ = some (.int .i64 K.length) := fun d => H2.out.d
  have cn2 : ∀ d, World.cell? ⟨w2.heap, w2.tape, d, w2.os, w2.output⟩ ⟨b, 8, none⟩ = some (.int .i64 S.length) := fun d => H2.out.n
  go_still_tail 9, (by kernel_rfl)
  change wpList _ _ _ _ _ w2.drew
  refine wpList_copy_splice rfl (.tmp 19) (.tmp 27) 28 28 rfl 3 Try.underlying28 size_int _ _ _ _ _ _ rfl rfl w1.heap.size 0 (List.replicate (S.length + K.length) (Value.int .i64 0)) 3 hb2 (S.map (Value.int .i64 ·)) (by simp) (fun hp => ⟨rfl, _, rfl, fun j v hj => ?_⟩) (by simp) (by simp [Value.oneCell']) w1.heap.size w1 (Keep.drew K12).below_self (Nat.le_refl _) ?_
  · obtain ⟨hj1, rfl⟩ := List.getElem?_eq_some_iff.1 hj
    simp at hj1
    change w2.cell? _ = _
    rw [show Addr.add _ _ = (⟨b, j, none⟩ : Addr) from by simp [Addr.add]; omega]
    simpa using H2.out.s j hj1
  intro w3 hw3 b3
  have h3 := hw3.out
  simp [splice] at h3
  have K3 : Keep [] w w3 := K1.trans (Keep.of_below b3)
  have hsz3 := b3.size
  have H3 := Lib.hid (H.out.keep K3 List.not_mem_nil)
  have c3 : ∀ d, World.cell? ⟨w3.heap, w3.tape, d, w3.os, w3.output⟩ ⟨b, 25, none⟩ = some (.int .i64 K.length) := fun d => H3.out.d
  have cn3 : ∀ d, World.cell? ⟨w3.heap, w3.tape, d, w3.os, w3.output⟩ ⟨b, 8, none⟩ = some (.int .i64 S.length) := fun d => H3.out.n
  clear hw3
  go_wp2_with fail
  go_still_tail 14, (by kernel_rfl)
  change wpList _ _ _ _ _ w3.drew
  refine wpList_copy_splice rfl (.tmp 34) (.tmp 42) 28 28 rfl 3 Try.underlying28 size_int _ _ _ _ _ _ rfl rfl w1.heap.size S.length (S.map (Value.int .i64 ·) ++ List.replicate K.length (Value.int .i64 0)) 3 (by rw [← List.toArray_appendList] at *; exact h3) (K.map (Value.int .i64 ·)) (by simp) (fun hp => ⟨?_, _, rfl, fun j v hj => ?_⟩) (by simp) (by simp [Value.oneCell']) w1.heap.size w1 (Keep.drew (Keep.of_below b3)).below_self (Nat.le_refl _) ?_
  · rw [if_neg (by intro e; subst e; simp at hp)]
  · obtain ⟨hj1, rfl⟩ := List.getElem?_eq_some_iff.1 hj
    simp at hj1
    change w3.cell? _ = _
    rw [show Addr.add _ _ = (⟨b, 9 + j, none⟩ : Addr) from by simp [Addr.add]]
    simpa using H3.out.k j hj1
  intro w4 hw4 b4
  have h4 := hw4.out
  have h4' : w4.heap[w1.heap.size]? = some (.cells ((S ++ K).map (Value.int .i64 ·)).toArray 3 (0, 0)) := by
    rw [h4]; simp [splice]
  have K4 : Keep [] w w4 := K1.trans (Keep.of_below b4)
  have hsz4 := lt_of_block h4'
  have HC := cell_at h4'
  have hX : (S ++ K).length = S.length + K.length := by simp
  generalize S ++ K = X at *
  have HK4 := Lib.hid K4
  have hNX : ((S.length + K.length : Nat) : Int) = (X.length : Int) := by omega
  clear h4 hw4 b4 K4 c3 cn3 H3 hsz3 K3 h3 b3 c2 cn2 H2 hsz2 K12 K2 hb2 K1 f n1 n2 n3 n4 n5 hlt hmk h4'
  generalize @ite (Option Addr) (K = []) _ _ _ = q
  go_wp2_with fail
  go_loopw [4, 46] (fun v i wr => RootsAllInv w w4 X v i wr) (fun _ i _ => X.length - (intOf i).toNat)
  case atStart => exact ⟨0, [], by omega, rfl, by simp, World.ownsRow_nil _ _ _ _, HK4.out, Keep.refl _ _⟩
  case round =>
    obtain ⟨k, L, hk, rfl, hL, HO, HK, HK2⟩ := hrel
    have HHO := Lib.hid HO; have HHK := Lib.hid HK; have HHK2 := Lib.hid HK2; have HL := Lib.hid hL
    have hLX : L.length ≤ k := by rw [hL]; exact Nat.le_trans (List.length_filter_le _ _) (by simp; omega)
    clear HO HK HK2 hL
    obtain ⟨ao, cap, rfl, hc1, hc2⟩ := owns_val HHO.out
    by_cases hkn : k < X.length
    · have nx : (k : Int) < (S.length : Int) + (K.length : Int) := by omega
      have nx0 : (0 : Int) ≤ (k : Int) := by omega
      have cx0 : w4.cell? ⟨w1.heap.size, k, none⟩ = some (.int .i64 X[k]) := (HC k).trans (by simp [hkn])
      have cx := HHK2.out.cell cx0 (by simp)
      clear cx0
      by_cases hz : X[k] = 0
      · rw [hz] at cx
        go_wp2_with fail
        go_roundw
        case rel => exact ⟨k + 1, L, by omega, by go_num, by rw [List.take_succ_eq_append_getElem hkn, List.filter_append, ← HL.out, hz]; simp, HHO.out, HHK.out, HHK2.out⟩
        case measure => simp [intOf]; omega
      · have nz : (X[k] != 0) = true := by simpa using hz
        have nz2 : (X[k] == 0) = false := by simpa using hz
        have HZ := Lib.hid hz
        clear hz
        go_wp2_with (at_builtin; go_loud (refine wpList_append_rd _ rfl _ _ _ rfl elem_int w4.heap.size (.slice ao L.length cap) L.length (L.map (Value.int .i64)) rfl (HHO.out.alloc _) _ 1 [.int .i64 X[k]] rfl (Rd.lit wr (.int .i64 X[k]) _ rfl) rfl (by simp [maxLen]; omega) (by omega) (by have := HHK2.out.size; simp; omega) ?_); intro ao3 cap3 w5 ho5 hg5; have HO5 := Lib.hid ho5; have HG5 := Lib.hid hg5; clear ho5 hg5)
        have hk5 : Keep ((Value.slice ao L.length cap).ownBlock.toList) wr w5 := ((Keep.refl _ wr).alloc _).grown HG5.out (fun g hg => .inr (by simpa using hg))
        have hnb : ∀ x ∈ (Value.slice ao L.length cap).ownBlock.toList, w4.heap.size ≤ x := fun x hm => (owns_block HHO.out x (by simpa using hm)).1
        have HK5 := Lib.hid hk5; have HN := Lib.hid hnb; clear hk5 hnb
        go_roundw
        case rel => exact ⟨k + 1, L ++ [X[k]], by omega, rfl, by rw [List.take_succ_eq_append_getElem hkn, List.filter_append, ← HL.out]; simp [HZ.out], by simpa using HO5.out, Keep.of_below ((HHK.out.below_self).trans (HK5.out.below HHK.out.size (fun x hx => Nat.le_trans HK4.out.size (HN.out x hx)))), Keep.of_below (HHK2.out.below_self.trans (HK5.out.below HHK2.out.size HN.out))⟩
        case measure => simp [intOf]; omega
    · have hkn2 : k = X.length := by omega
      have nx : ¬ (k : Int) < (S.length : Int) + (K.length : Int) := by omega
      go_wp2_with fail
      refine hR.out _ _ ⟨_, L, rfl, by rw [HL.out, hkn2, List.take_length], Rd.of_owns HHO.out (by simp [Value.oneCell']), HHK.out⟩
end Go.Proofs.Ytgdbccficcgbdaa
