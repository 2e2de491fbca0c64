/- The acts of demesnelaw14 upon an arena that says a state. -/
import Derived.Test.YtnadiddaeolanaaLaw14
namespace Go.Proofs.Ytnadiddaeolanaa
open Go.RowKit
set_option linter.unusedVariables false
set_option linter.unusedSimpArgs false

/-- At b, g lies an arena whose words say the map m and the entries E, behind t touches. -/
def Ga (w : World) (b g n m : Nat) (E : List Int) (t : Int) : Prop := ∃ W la, Arn w b g W t la ∧ St W n m E
theorem Ga.keep {S : List Nat} {w w' : World} {b g n m : Nat} {E : List Int} {t : Int} (h : Ga w b g n m E t) (k : Keep S w w') (hb : b ∉ S) (hg : g ∉ S) : Ga w' b g n m E t :=
  let ⟨W, la, hA, hS⟩ := h
  ⟨W, la, hA.keep k hb hg, hS⟩
theorem lay1_fits {n : Nat} (hn : n ≤ 20) : (lay1 n).fits := by unfold Lay.fits lay1; dsimp only; omega
def arnV (b : Nat) : Value := .iface 25 (.pointer (some ⟨b, 0, none⟩))
theorem ga_begin {w : World} {b g n : Nat} (hn : n ≤ 20) {t la : Int} (h : Arn w b g (List.replicate (5 + 33 * n) 0) t la) :
    Calls Try.prog 34 #[arnV b, layV n] w fun e w' => e = .returned (.tuple #[]) ∧ (∃ t', Ga w' b g n (allN n) (List.replicate n 0) t') ∧ Keep [b, g] w w' := by
  rw [← layV_eq]
  refine (give_begin h (lay1 n) (lay1_fits hn)).mono ?_
  rintro e w' ⟨rfl, hA, hK⟩
  exact ⟨rfl, ⟨_, _, _, hA, St.begin n (by omega)⟩, hK⟩
theorem touch_tz {L : Nat} (h : 0 < L) (t : Int) : (tz L 0 t - t) % 18446744073709551616 = 1 := by
  have : inr L 0 = true := by simp [inr]; omega
  rw [tz, if_pos this, IntKind.wrap_u64]; omega
theorem ga_claim {w : World} {b g n m : Nat} {E : List Int} {t : Int} (h : Ga w b g n m E t) (r : Int) :
    Calls Try.prog 36 #[arnV b, layV n, .int .i64 r] w fun e w' => e = .returned (.tuple #[.int .i64 (atOf (findN m r)), .bool (findN m r).isSome]) ∧
      (∃ t', Ga w' b g n (claimV m r) E t' ∧ (t' - t) % 18446744073709551616 = if 1 ≤ r ∧ r ≤ 3 then 1 else 0) ∧ Keep [b, g] w w' := by
  obtain ⟨W, la, hA, hS⟩ := h
  rw [← layV_eq]
  refine (give_claim hA hS.words (by rw [hS.len]; omega) (lay1 n) r m hS.map).mono ?_
  rintro e w' ⟨rfl, hA', hK⟩
  refine ⟨?_, ⟨_, ⟨_, _, hA', hS.claim r⟩, ?_⟩, hK⟩
  · by_cases hr : 1 ≤ r ∧ r ≤ 3
    · simp [hr]
    · rw [findN_bad hr, if_neg hr]; simp [atOf]
  · split
    · exact touch_tz (by rw [hS.len]; omega) t
    · omega
theorem ga_back {w : World} {b g n m : Nat} {E : List Int} {t : Int} (hn : n ≤ 20) (h : Ga w b g n m E t) (k r : Int) :
    Calls Try.prog 38 #[arnV b, layV n, .int .i64 k, .int .i64 r] w fun e w' => e = .returned (.tuple #[]) ∧
      (∃ t', Ga w' b g n (backM n m k r) (backE n E k r) t' ∧ (t' - t) % 18446744073709551616 = if okE n k r then r + 1 else 0) ∧ Keep [b, g] w w' := by
  obtain ⟨W, la, hA, hS⟩ := h
  rw [← layV_eq]
  refine (give_back hA hS.words (lay1 n) (lay1_fits hn) (by rw [hS.len, lay1_base]; simp only [lay1]; omega) k r).mono ?_
  rintro e w' ⟨rfl, ⟨t', la', hA', ht⟩, hK⟩
  exact ⟨rfl, ⟨t', ⟨_, _, hA', hS.back k r⟩, ht⟩, hK⟩
theorem ga_set {w : World} {b g n m : Nat} {E : List Int} {t : Int} (hn : n ≤ 20) (h : Ga w b g n m E t) (k : Int) (e : En) (hu : e.u8) :
    Calls Try.prog 43 #[arnV b, layV n, .int .i64 k, e.val] w fun x w' => x = .returned (.tuple #[]) ∧
      (∃ t', Ga w' b g n m (setE n E k e) t' ∧ (t' - t) % 18446744073709551616 = if e.may = true ∧ 0 ≤ k ∧ k < n then 1 else 0) ∧ Keep [b, g] w w' := by
  obtain ⟨W, la, hA, hS⟩ := h
  rw [← layV_eq]
  refine (give_set hA (lay1 n) (lay1_fits hn) k e hu).mono ?_
  rintro x w' ⟨rfl, ⟨la', hA'⟩, hK⟩
  refine ⟨rfl, ⟨_, ⟨_, _, hA', hS.set k e hu⟩, ?_⟩, hK⟩
  by_cases hk : 0 ≤ k ∧ k < n
  · have hin := Lay.entry_in (l := lay1 n) (i := k) hk
    rw [lay1_base] at hin
    by_cases hm : e.may = true
    · rw [if_pos ⟨hm, by omega⟩, if_pos ⟨hm, hk⟩, tz, if_pos (by simp only [inr, decide_eq_true_eq, hS.len]; omega), IntKind.wrap_u64]; omega
    · rw [if_neg (fun c => hm c.1), if_neg (fun c => hm c.1)]; omega
  · rw [Lay.entry_out hk, if_neg (by omega), if_neg (fun c => hk c.2)]; omega
theorem ga_entry {w : World} {b g n m : Nat} {E : List Int} {t : Int} (hn : n ≤ 20) (h : Ga w b g n m E t) (k : Nat) (hk : k ≤ n) :
    Calls Try.prog 49 #[arnV b, layV n, .int .i64 k] w fun e w' => e = .returned (if k < n then takeE (E.getD k 0) else En.zero).val ∧ (∃ t', Ga w' b g n m E t') ∧ Keep [b, g] w w' := by
  obtain ⟨W, la, hA, hS⟩ := h
  rw [← layV_eq]
  refine (give_entry hA hS.words (lay1 n) (lay1_fits hn) k).mono ?_
  rintro e w' ⟨rfl, ⟨t', la', hA'⟩, hK⟩
  refine ⟨?_, ⟨t', _, _, hA', hS⟩, hK⟩
  by_cases hkn : k < n
  · rw [hS.entry hkn, if_pos hkn]
  · obtain rfl : k = n := by omega
    rw [hS.past, if_neg hkn]
theorem ga_waiting {w : World} {b g n m : Nat} {E : List Int} {t : Int} (hn : n ≤ 20) (h : Ga w b g n m E t) (o : Int) (a : Nat) (cs : Array Value) (ty : TypeId) (hc : cs[3]? = some (.int .u8 o)) (ha : w.heap[a]? = some (.cells cs ty (0, 0))) (hab : a ≠ b ∧ a ≠ g) :
    Calls Try.prog 40 #[arnV b, layV n, .func (.func 41) #[] #[.pointer (some ⟨a, 0, none⟩)]] w fun e w' => e = .returned (.tuple #[]) ∧
      (∃ t', Ga w' b g n (waitE n o (m, E) n).1 (waitE n o (m, E) n).2 t') ∧ Keep [b, g] w w' := by
  obtain ⟨W, la, hA, hS⟩ := h
  rw [← layV_eq]
  refine (give_waiting hA hS.words (lay1 n) (lay1_fits hn) (by rw [hS.len, lay1_base]; simp only [lay1]; omega) 41 Try.call41 #[.pointer (some ⟨a, 0, none⟩)] (fun x => x == o) (fun x w2 _ K => law14_fn x o a cs ty hc w2 (K.get ha (by simp [hab])))).mono ?_
  rintro e w' ⟨rfl, ⟨t', la', hA'⟩, hK⟩
  exact ⟨rfl, ⟨t', _, _, hA', hS.waiting o n (Nat.le_refl _)⟩, hK⟩
theorem ga_touched {w : World} {b g n m : Nat} {E : List Int} {t : Int} (h : Ga w b g n m E t) :
    Calls Try.prog 23 #[.pointer (some ⟨b, 0, none⟩)] w fun e w' => e = .returned (.int .u64 t) ∧ w' = w := by
  obtain ⟨W, la, hA, hS⟩ := h
  exact arena_touched hA
theorem ga_map {w : World} {b g n m : Nat} {E : List Int} {t : Int} (h : Ga w b g n m E t) :
    Calls Try.prog 30 #[.pointer (some ⟨b, 0, none⟩), .int .i64 0] w fun e w' => e = .returned (.int .u64 m) ∧ (∃ t', Ga w' b g n m E t') ∧ Keep [b, g] w w' := by
  obtain ⟨W, la, hA, hS⟩ := h
  refine (arena_read_any hA 0).mono ?_
  rintro e w' ⟨rfl, hA', hK⟩
  exact ⟨by rw [hS.map], ⟨_, _, _, hA', hS⟩, hK⟩
theorem ga_word {w : World} {b g n m : Nat} {E : List Int} {t : Int} (h : Ga w b g n m E t) (k : Nat) (hk : k < n) :
    Calls Try.prog 30 #[.pointer (some ⟨b, 0, none⟩), .int .i64 (((5 + k : Nat) : Int))] w fun e w' => e = .returned (.int .u64 (E.getD k 0)) ∧ (∃ t', Ga w' b g n m E t') ∧ Keep [b, g] w w' := by
  obtain ⟨W, la, hA, hS⟩ := h
  refine (arena_read_any hA _).mono ?_
  rintro e w' ⟨rfl, hA', hK⟩
  exact ⟨by rw [hS.ents k hk], ⟨_, _, _, hA', hS⟩, hK⟩
theorem lay_entry (n : Nat) (hn : n ≤ 20) (k : Nat) (hk : k < n) (w : World) :
    Calls Try.prog 48 #[layV n, .int .i64 k] w fun e w' => e = .returned (.int .i64 (((5 + k : Nat) : Int))) ∧ Keep [] w w' := by
  rw [← layV_eq, ← entry_at hk]
  exact layout_entry (lay1 n) (lay1_fits hn) k w
end Go.Proofs.Ytnadiddaeolanaa
