/- The words of things have the shape that the plain law asks. -/
import Derived.Test.YtnadiddaeolanaaPlain16
import Derived.Test.YtnadiddaeolanaaWakes16
namespace Go.Proofs.Ytnadiddaeolanaa
open Go.RowKit
set_option linter.unusedVariables false
set_option linter.unusedSimpArgs false

theorem wordsOf_get (l : List Th) (k j : Nat) (hj : j < 4) : (wordsOf l)[4 * k + 1 + j]? = (l[k]?).bind fun t => (t.words l.length)[j]? := by
  unfold wordsOf
  rw [show 4 * k + 1 + j = (k * 4 + j) + 1 from by omega, List.getElem?_cons_succ, flat_get _ 4 (fun t => rfl) l k j hj]
theorem rdz_get {W : List Int} {i : Nat} {x : Int} (h : W[i]? = some x) : rdz W (i : Int) = x := by
  obtain ⟨hl, e⟩ := List.getElem?_eq_some_iff.1 h
  rw [rdz_nat hl, e]
theorem Hd.word_bounds {h : Hd} (hu : h.u8) (hm : h.may = true) : 0 ≤ h.word ∧ h.word < 18446744073709551616 := by
  obtain ⟨⟨k0, k1⟩, ⟨c0, c1⟩, ⟨o0, o1⟩, ⟨r0, r1⟩, ⟨s0, s1⟩⟩ := hu
  unfold Hd.word
  constructor <;> split <;> split <;> omega
theorem putF_cases {n f : Int} (hn : 0 ≤ n ∧ n ≤ 20) (hf : 0 ≤ f ∧ f ≤ 255) : putF n f = 0 ∨ 1000 ≤ putF n f ∧ putF n f < 2000 ∨ ∃ j : Nat, putF n f = j ∧ j % 4 = 1 ∧ j < 2000 := by
  unfold putF
  split
  · split
    · exact .inr (.inr ⟨(4 * f - 3).toNat, by omega, by omega, by omega⟩)
    · exact .inr (.inl ⟨by omega, by omega⟩)
  · exact .inl rfl
theorem okAll_at {l : List Th} (h : okAll l = true) {t : Th} (ht : t ∈ l) : t.h.may = true ∧ t.h.size ≤ 3 := by
  have := List.all_eq_true.1 h t ht
  simpa [Th.okay] using this
theorem may_refs {h : Hd} (hm : h.may = true) : h.refs ≤ h.size := by
  unfold Hd.may at hm
  split at hm
  · cases hm
  · omega

theorem shp_words {l : List Th} (hu : ∀ t ∈ l, t.u8) (ho : okAll l = true) (hl : l.length ≤ 20) : Shp (wordsOf l) := by
  have hlen := wordsOf_len l
  refine ⟨words_of_all fun x hx => ?_, by omega, fun i hi hlt => ?_, fun i k hi hlt hk => ?_⟩
  · unfold wordsOf at hx
    simp only [List.mem_cons, List.mem_flatMap] at hx
    rcases hx with rfl | ⟨t, ht, hx⟩
    · decide
    · obtain ⟨hm, hs⟩ := okAll_at ho ht
      obtain ⟨u0, u1, u2, u3⟩ := hu t ht
      simp only [Th.words, List.mem_cons, List.not_mem_nil, or_false] at hx
      have hp : ∀ f : Int, 0 ≤ f ∧ f ≤ 255 → 0 ≤ putF l.length f ∧ putF l.length f < 18446744073709551616 := fun f hf => by
        rcases putF_cases (n := l.length) ⟨by omega, by omega⟩ hf with h | h | ⟨j, h, _⟩ <;> omega
      rcases hx with rfl | rfl | rfl | rfl
      · exact Hd.word_bounds u0 hm
      · exact hp _ u1
      · exact hp _ u2
      · exact hp _ u3
  · have hk : i / 4 < l.length := by omega
    have hg := wordsOf_get l (i / 4) 0 (by omega)
    rw [show 4 * (i / 4) + 1 + 0 = i from by omega, List.getElem?_eq_getElem hk] at hg
    rw [rdz_get hg]
    have ht := List.getElem_mem hk
    obtain ⟨hm, hs⟩ := okAll_at ho ht
    rw [takeH_word (hu _ ht).1 hm]
    have := may_refs hm
    omega
  · have hk' : i / 4 < l.length := by omega
    have hg := wordsOf_get l (i / 4) (1 + k) (by omega)
    rw [show 4 * (i / 4) + 1 + (1 + k) = i + 1 + k from by omega, List.getElem?_eq_getElem hk'] at hg
    have ht := List.getElem_mem hk'
    have hwk : (Th.words (l.length : Nat) l[i / 4])[1 + k]? = some (putF (l.length : Nat) (l[i / 4].f k)) := by
      match k, hk with
      | 0, _ => rfl
      | 1, _ => rfl
      | 2, _ => rfl
    simp only [Option.bind_some] at hg
    rw [hwk] at hg
    have := rdz_get hg
    rw [show (((i + 1 + k : Nat)) : Int) = (i : Int) + 1 + k from by omega] at this
    rw [this]
    exact putF_cases ⟨by omega, by omega⟩ (Th.f_u8 (hu _ ht) k)
end Go.Proofs.Ytnadiddaeolanaa
