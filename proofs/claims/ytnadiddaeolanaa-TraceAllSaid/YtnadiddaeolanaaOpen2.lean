/- Arguments opened: a slice of whole numbers. -/
import Derived.Test.YtnadiddaeolanaaOpen
namespace Go.Proofs.Ytnadiddaeolanaa
open Go.RowKit Go.ChangeShapes Go.WideShapes Go.Deep
set_option linter.unusedVariables false

theorem lit_wf_u16 {x : Int} (h : (Lit.int .u16 x).wf = true) : 0 ≤ x ∧ x ≤ 65535 := by
  have h2 : decide (IntKind.u16.min ≤ x) = true ∧ decide (x ≤ IntKind.u16.max) = true := by simpa [Lit.wf] using h
  have hmin : IntKind.u16.min = 0 := rfl
  have hmax : IntKind.u16.max = 65535 := rfl
  rw [hmin, hmax] at h2
  exact ⟨of_decide_eq_true h2.1, of_decide_eq_true h2.2⟩

theorem open_ints {H : Type} {enc : TypeId × Value → H} {P : Program} {w : World} {base : Nat} {spare : Nat → Bool} {held : Bool} {t e : TypeId} {k : IntKind} {v : Value} {d : DataW H} {ps : List MemPlace} (ht : P.underlying t = some (.slice e)) (he : P.underlying e = some (.int k))
    (hC : P.cellsOf e = 1) (h : DataW.Trod enc P w base spare held t v d ps) (hone1 : v.cells = #[v]) : ∃ n F, Recs w v n [k] F := by
  obtain ⟨fuel, h⟩ := h
  rw [hone1] at h
  rcases open_slice ht h with ⟨hcs, _⟩ | ⟨a, len, cap, m, n, D, Pl, hcs, hb, hl, hm, hmm, hx, hi⟩
  · simp at hcs
    subst hcs
    exact ⟨0, fun _ _ => 0, [], Rd.nil w, by simp, fun i h => by omega⟩
  · simp at hcs
    subst hcs
    have hlm : len ≤ m := by rw [hmm]; split <;> omega
    have key : ∀ i, ∃ x, i < len → w.cell? (a.add i) = some (.int k x) ∧ (Lit.int k x).wf = true := by
      intro i
      by_cases hil : i < len
      · obtain ⟨cs', hc, ht'⟩ := hi i (by omega)
        rw [hC] at hc
        obtain ⟨_, hcl, hat⟩ := World.cells?_some hc
        obtain ⟨x, hx1, _, hx3⟩ := DataW.trod_int he ht'
        have h0 := hat 0 (by omega)
        subst hx1
        refine ⟨x, fun _ => ⟨?_, hx3⟩⟩
        rw [Go.Deep.add_add] at h0
        simpa using h0
      · exact ⟨0, fun h => absurd h hil⟩
    refine ⟨len, fun i _ => (key i).choose, (List.range len).map (fun i => Value.int k (key i).choose), ⟨some a, cap, rfl, hl, hm, by simp, by simp [Value.oneCell'], fun a' ha' q u hu => ?_⟩, by simp, fun i hil j k' hjk => ?_⟩
    · cases ha'
      rw [List.getElem?_map, Option.map_eq_some_iff] at hu
      obtain ⟨q', hq', rfl⟩ := hu
      obtain ⟨hlt, rfl⟩ := List.getElem?_eq_some_iff.1 hq'
      simp only [List.length_range] at hlt
      simp only [List.getElem_range]
      exact ((key q).choose_spec hlt).1
    · have hj : j = 0 := by have := (List.getElem?_eq_some_iff.1 hjk).1; simp at this; exact this
      subst hj
      simp at hjk
      subst hjk
      refine ⟨?_, ((key i).choose_spec hil).2⟩
      simp [hil]
end Go.Proofs.Ytnadiddaeolanaa
