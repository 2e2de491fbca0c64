/- Acts on roots, whatever they are: the object and the reference do the same. -/
import Derived.Test.YtgdbccficcgbdaaRef09
namespace Go.Proofs.Ytgdbccficcgbdaa
open Go.RowKit
set_option linter.unusedVariables false
set_option linter.unusedSimpArgs false

def inS (S : List Int) (n : Int) : Bool := decide (0 ≤ n) && decide (n < S.length)
/-- An act's answer, slots, stack. -/
def pushF (S K : List Int) (n : Int) : Int × List Int × List Int := if inS S n then if K.length < 16 then (0, S, K ++ [S.getD n.toNat 0]) else (4, S, K) else (2, S, K)
def popF (S K : List Int) (n : Int) : Int × List Int × List Int := if inS S n then match K.getLast? with | none => (5, S, K) | some x => (0, S.set n.toNat x, K.dropLast) else (2, S, K)
def setF (S K : List Int) (n x : Int) : Int × List Int × List Int := if inS S n && decide (0 ≤ x) then (0, S.set n.toNat x, K) else (2, S, K)

theorem inS_true {S : List Int} {n : Int} (h : inS S n = true) : ∃ i : Nat, n = i ∧ i < S.length := by
  simp [inS] at h
  exact ⟨n.toNat, by omega, by omega⟩
theorem inS_false {S : List Int} {n : Int} (h : inS S n = false) : n < 0 ∨ S.length ≤ n := by
  simp [inS] at h
  omega

theorem roots_push_any {w : World} {b : Nat} {S K : List Int} (h : Rts w b S K) (n : Int) : Calls Try.prog 41 #[.pointer (some ⟨b, 0, none⟩), .int .i64 n] w fun e w' => e = .returned (.int .i64 (pushF S K n).1) ∧ Rts w' b (pushF S K n).2.1 (pushF S K n).2.2 ∧ Keep [b] w w' := by
  cases hi : inS S n with
  | false => exact (roots_push_bad h n (inS_false hi)).mono (by rintro e w' ⟨rfl, rfl⟩; rw [show pushF S K n = (2, S, K) from by simp [pushF, hi]]; exact ⟨rfl, h, Keep.refl _ _⟩)
  | true =>
    obtain ⟨i, rfl, hlt⟩ := inS_true hi
    by_cases hk : K.length < 16
    · refine (roots_push h i i rfl hlt hk).mono ?_
      rintro e w' ⟨rfl, h2, h3⟩
      rw [show pushF S K i = (0, S, K ++ [S[i]]) from by simp [pushF, hi, hk, hlt]]
      exact ⟨rfl, h2, h3⟩
    · refine (roots_push_full h i i rfl hlt (by have := h.deep; omega)).mono ?_
      rintro e w' ⟨rfl, rfl⟩
      rw [show pushF S K i = (4, S, K) from by simp [pushF, hi, hk]]
      exact ⟨rfl, h, Keep.refl _ _⟩

theorem roots_pop_any {w : World} {b : Nat} {S K : List Int} (h : Rts w b S K) (n : Int) : Calls Try.prog 42 #[.pointer (some ⟨b, 0, none⟩), .int .i64 n] w fun e w' => e = .returned (.int .i64 (popF S K n).1) ∧ Rts w' b (popF S K n).2.1 (popF S K n).2.2 ∧ Keep [b] w w' := by
  cases hi : inS S n with
  | false => exact (roots_pop_bad h n (inS_false hi)).mono (by rintro e w' ⟨rfl, rfl⟩; rw [show popF S K n = (2, S, K) from by simp [popF, hi]]; exact ⟨rfl, h, Keep.refl _ _⟩)
  | true =>
    obtain ⟨i, rfl, hlt⟩ := inS_true hi
    rcases List.eq_nil_or_concat K with rfl | ⟨K', x, hK⟩
    · refine (roots_pop_none h i i rfl hlt).mono ?_
      rintro e w' ⟨rfl, rfl⟩
      rw [show popF S [] i = (5, S, []) from by simp [popF, hi]]
      exact ⟨rfl, h, Keep.refl _ _⟩
    · rw [List.concat_eq_append] at hK
      subst hK
      refine (roots_pop h i i rfl hlt).mono ?_
      rintro e w' ⟨rfl, h2, h3⟩
      rw [show popF S (K' ++ [x]) i = (0, S.set i x, K') from by simp [popF, hi]]
      exact ⟨rfl, h2, h3⟩

theorem roots_set_any {w : World} {b : Nat} {S K : List Int} (h : Rts w b S K) (n x : Int) : Calls Try.prog 40 #[.pointer (some ⟨b, 0, none⟩), .int .i64 n, .int .i64 x] w fun e w' => e = .returned (.int .i64 (setF S K n x).1) ∧ Rts w' b (setF S K n x).2.1 (setF S K n x).2.2 ∧ Keep [b] w w' := by
  cases hi : inS S n with
  | false => exact (roots_set_bad h n x (inS_false hi)).mono (by rintro e w' ⟨rfl, rfl⟩; rw [show setF S K n x = (2, S, K) from by simp [setF, hi]]; exact ⟨rfl, h, Keep.refl _ _⟩)
  | true =>
    obtain ⟨i, rfl, hlt⟩ := inS_true hi
    by_cases hx : 0 ≤ x
    · refine (roots_set h i x i rfl hlt hx).mono ?_
      rintro e w' ⟨rfl, h2, h3⟩
      rw [show setF S K i x = (0, S.set i x, K) from by simp [setF, hi, hx]]
      exact ⟨rfl, h2, h3⟩
    · refine (roots_set_neg h i x i rfl hlt (by omega)).mono ?_
      rintro e w' ⟨rfl, rfl⟩
      rw [show setF S K i x = (2, S, K) from by simp [setF, hi, hx]]
      exact ⟨rfl, h, Keep.refl _ _⟩

/-- The slices' blocks: new, or as they were. -/
def Frs (w : World) (a1 a2 a1' a2' : Option Addr) : Prop := ∀ a, (a1' = some a ∨ a2' = some a) → w.heap.size ≤ a.block ∨ a1 = some a ∨ a2 = some a

theorem Frs.refl (w : World) (a1 a2 : Option Addr) : Frs w a1 a2 a1 a2 := fun a h => .inr h

theorem ref09_push_any (n : Int) {a1 a2 : Option Addr} {c1 c2 k m : Nat} {S K : List Int} (hk : k ≤ 4096) (hm : m ≤ 16) (w : World) (h : R9 w a1 c1 a2 c2 k m S K) :
    Calls Try.prog 46 #[.agg #[.slice a1 k c1, .slice a2 m c2], .int .i64 n] w fun e w' => ∃ a1' c1' a2' c2' m', e = .returned (.tuple #[.agg #[.slice a1' k c1', .slice a2' m' c2'], .int .i64 (pushF S K n).1]) ∧ R9 w' a1' c1' a2' c2' k m' (pushF S K n).2.1 (pushF S K n).2.2 ∧ Keep [] w w' ∧ Frs w a1 a2 a1' a2' := by
  have hS := h.1
  have hK := h.2.1
  cases hi : inS S n with
  | false => exact (ref09_push_bad n (by have := inS_false hi; omega) hk w).mono (by rintro e w' ⟨rfl, k2⟩; rw [show pushF S K n = (2, S, K) from by simp [pushF, hi]]; exact ⟨_, _, _, _, _, rfl, h.keep k2, k2, Frs.refl _ _ _⟩)
  | true =>
    obtain ⟨i, rfl, hlt⟩ := inS_true hi
    by_cases hk2 : K.length < 16
    · refine (ref09_push i i rfl (by omega) hk (by omega) w h hlt).mono ?_
      rintro e w' ⟨a2', c2', rfl, h2, h3, h4⟩
      rw [show pushF S K i = (0, S, K ++ [S[i]]) from by simp [pushF, hi, hk2, hlt]]
      exact ⟨_, _, _, _, _, rfl, h2, h3, fun a ha => by rcases ha with ha | ha; exact .inr (.inl ha); exact .inl (h4 a ha)⟩
    · refine (ref09_push_full i (by omega) (by omega) (by omega) w).mono ?_
      rintro e w' ⟨rfl, k2⟩
      rw [show pushF S K i = (4, S, K) from by simp [pushF, hi, hk2]]
      exact ⟨_, _, _, _, _, rfl, h.keep k2, k2, Frs.refl _ _ _⟩

theorem ref09_pop_any (n : Int) {a1 a2 : Option Addr} {c1 c2 k m : Nat} {S K : List Int} (hk : k ≤ 4096) (w : World) (h : R9 w a1 c1 a2 c2 k m S K) :
    Calls Try.prog 47 #[.agg #[.slice a1 k c1, .slice a2 m c2], .int .i64 n] w fun e w' => ∃ a1' c1' a2' c2' m', e = .returned (.tuple #[.agg #[.slice a1' k c1', .slice a2' m' c2'], .int .i64 (popF S K n).1]) ∧ R9 w' a1' c1' a2' c2' k m' (popF S K n).2.1 (popF S K n).2.2 ∧ Keep [] w w' ∧ Frs w a1 a2 a1' a2' := by
  have hS := h.1
  have hK := h.2.1
  cases hi : inS S n with
  | false => exact (ref09_pop_bad n (by have := inS_false hi; omega) hk w).mono (by rintro e w' ⟨rfl, k2⟩; rw [show popF S K n = (2, S, K) from by simp [popF, hi]]; exact ⟨_, _, _, _, _, rfl, h.keep k2, k2, Frs.refl _ _ _⟩)
  | true =>
    obtain ⟨i, rfl, hlt⟩ := inS_true hi
    rcases List.eq_nil_or_concat K with rfl | ⟨K', x, hKx⟩
    · simp at hK
      subst hK
      refine (ref09_pop_none i (by omega) (by omega) w).mono ?_
      rintro e w' ⟨rfl, k2⟩
      rw [show popF S [] i = (5, S, []) from by simp [popF, hi]]
      exact ⟨_, _, _, _, _, rfl, h.keep k2, k2, Frs.refl _ _ _⟩
    · rw [List.concat_eq_append] at hKx
      subst hKx
      simp at hK
      subst hK
      refine (ref09_pop i x i rfl (by omega) hk w h).mono ?_
      rintro e w' ⟨a1', c1', rfl, h2, h3, h4⟩
      rw [show popF S (K' ++ [x]) i = (0, S.set i x, K') from by simp [popF, hi]]
      exact ⟨_, _, _, _, _, rfl, h2, h3, fun a ha => by rcases ha with ha | ha; exact .inl (h4 a ha); exact .inr (.inr ha)⟩

theorem ref09_set_any (n x : Int) {a1 a2 : Option Addr} {c1 c2 k m : Nat} {S K : List Int} (hk : k ≤ 4096) (w : World) (h : R9 w a1 c1 a2 c2 k m S K) :
    Calls Try.prog 48 #[.agg #[.slice a1 k c1, .slice a2 m c2], .int .i64 n, .int .i64 x] w fun e w' => ∃ a1' c1' a2' c2' m', e = .returned (.tuple #[.agg #[.slice a1' k c1', .slice a2' m' c2'], .int .i64 (setF S K n x).1]) ∧ R9 w' a1' c1' a2' c2' k m' (setF S K n x).2.1 (setF S K n x).2.2 ∧ Keep [] w w' ∧ Frs w a1 a2 a1' a2' := by
  have hS := h.1
  have hK := h.2.1
  cases hi : inS S n with
  | false => exact (ref09_set_bad n x (S := S) (K := K) (by have := inS_false hi; omega) hk w).mono (by rintro e w' ⟨rfl, k2⟩; rw [show setF S K n x = (2, S, K) from by simp [setF, hi]]; exact ⟨_, _, _, _, _, rfl, h.keep k2, k2, Frs.refl _ _ _⟩)
  | true =>
    obtain ⟨i, rfl, hlt⟩ := inS_true hi
    by_cases hx : 0 ≤ x
    · refine (ref09_set i i rfl x hx (by omega) hk w h).mono ?_
      rintro e w' ⟨a1', c1', rfl, h2, h3, h4⟩
      rw [show setF S K i x = (0, S.set i x, K) from by simp [setF, hi, hx]]
      exact ⟨_, _, _, _, _, rfl, h2, h3, fun a ha => by rcases ha with ha | ha; exact .inl (h4 a ha); exact .inr (.inr ha)⟩
    · refine (ref09_set_bad i x (S := S) (K := K) (by omega) hk w).mono ?_
      rintro e w' ⟨rfl, k2⟩
      rw [show setF S K i x = (2, S, K) from by simp [setF, hi, hx]]
      exact ⟨_, _, _, _, _, rfl, h.keep k2, k2, Frs.refl _ _ _⟩

theorem pushF_len (S K : List Int) (n : Int) : (pushF S K n).2.1.length = S.length := by unfold pushF; repeat (first | rfl | split)
theorem popF_len (S K : List Int) (n : Int) : (popF S K n).2.1.length = S.length := by unfold popF; split; split <;> simp; rfl
theorem setF_len (S K : List Int) (n x : Int) : (setF S K n x).2.1.length = S.length := by unfold setF; split <;> simp

theorem R9.keepT {T : List Nat} {w w' : World} {a1 : Option Addr} {c1 : Nat} {a2 : Option Addr} {c2 n m : Nat} {S K : List Int} (h : R9 w a1 c1 a2 c2 n m S K) (k : Keep T w w')
    (ho : ∀ a, (a1 = some a ∨ a2 = some a) → a.block ∉ T) : R9 w' a1 c1 a2 c2 n m S K :=
  ⟨h.1, h.2.1, h.2.2.1.keep k (fun g hg => by cases a1 with | none => simp [Value.ownBlock] at hg | some a => simp [Value.ownBlock] at hg; subst hg; exact ho a (.inl rfl)),
    h.2.2.2.keep k (fun g hg => by cases a2 with | none => simp [Value.ownBlock] at hg | some a => simp [Value.ownBlock] at hg; subst hg; exact ho a (.inr rfl))⟩
end Go.Proofs.Ytgdbccficcgbdaa
