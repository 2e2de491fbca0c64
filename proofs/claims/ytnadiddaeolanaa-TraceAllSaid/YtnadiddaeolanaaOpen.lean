/- Arguments opened: a slice of structs of whole numbers; a slice of whole numbers. -/
import Derived.Test.YtnadiddaeolanaaLib
import Derived.ProofKit
import Derived.Deep.Slices
import Derived.Deep.Fields
import Derived.ChangeSame
namespace Go.Proofs.Ytnadiddaeolanaa
open Go.RowKit Go.ChangeShapes Go.WideShapes Go.Deep
set_option linter.unusedVariables false

/-- A slice of n records of whole numbers of these kinds: number j of record i is F i j. -/
def Recs (w : World) (v : Value) (n : Nat) (ks : List IntKind) (F : Nat → Nat → Int) : Prop :=
  ∃ cs, Rd w v n cs ∧ cs.length = n * ks.length ∧ ∀ i, i < n → ∀ (j : Nat) (k : IntKind), ks[j]? = some k → cs[i * ks.length + j]? = some (Value.int k (F i j)) ∧ (Lit.int k (F i j)).wf = true

section
variable {H : Type} {enc : TypeId × Value → H} {P : Program} {w : World} {base : Nat} {spare : Nat → Bool} {held : Bool}

theorem open_recs {t e : TypeId} {fs : Array Field} {ks : List IntKind} {v : Value} {d : DataW H} {ps : List MemPlace} (ht : P.underlying t = some (.slice e)) (he : P.underlying e = some (.struct fs))
    (hone : oneCellFields P fs = true) (hC : P.cellsOf e = fs.size) (hks : fs.toList.map (fun f => P.underlying f.type) = ks.map (fun k => some (.int k)))
    (h : DataW.Trod enc P w base spare held t v d ps) (hone1 : v.cells = #[v]) : ∃ n F, Recs w v n ks F := by
  have hsz : ks.length = fs.size := by have := congrArg List.length hks; simpa using this.symm
  obtain ⟨fuel, h⟩ := h
  rw [hone1] at h
  rcases open_slice ht h with ⟨hcs, _⟩ | ⟨a, len, cap, m, n, D, Pl, hcs, hb, hl, hm, hmm, hx, hi⟩
  · simp at hcs
    subst hcs
    exact ⟨0, fun _ _ => 0, [], Rd.nil w, by simp, fun i h => by omega⟩
  · simp at hcs
    subst hcs
    have hlm : len ≤ m := by rw [hmm]; split <;> omega
    have key : ∀ i, i < len → ∀ j k, ks[j]? = some k → ∃ x, w.cell? (a.add (i * ks.length + j)) = some (.int k x) ∧ (Lit.int k x).wf = true := by
      intro i hil j k hjk
      obtain ⟨cs', hc, ht'⟩ := hi i (by omega)
      rw [hC] at hc
      obtain ⟨ys, n', hn', hy, hlen, hyl, hf⟩ := DataW.trod_struct he ht'
      obtain ⟨_, hcl, hat⟩ := World.cells?_some hc
      have hjl : j < fs.size := by rw [← hsz]; exact (List.getElem?_eq_some_iff.1 hjk).1
      have hfj : fs[j]? = some fs[j] := Array.getElem?_eq_getElem hjl
      obtain ⟨ho, hk⟩ := hone_of hone j _ hfj
      have hcell := hat j hjl
      have h1 := hf j _ hfj
      have hty : P.underlying fs[j].type = some (.int k) := by
        have := congrArg (fun l => l[j]?) hks
        simp only [List.getElem?_map, hjk, Option.map_some] at this
        simpa [hfj] using this
      rw [ho, hk] at h1
      have hlt : j < cs'.length := by omega
      have hone' : (cs'.drop j).take 1 = [cs'[j]] := by
        rw [List.drop_eq_getElem_cons hlt]; rfl
      rw [hone'] at h1
      have hys : ys[j]? = some (ys[j]'(by omega)) := List.getElem?_eq_getElem (by omega)
      rw [hys] at h1
      obtain ⟨x, hx1, _, hx3⟩ := DataW.trod_int hty h1
      refine ⟨x, ?_, hx3⟩
      rw [hsz, ← Go.Deep.add_add, hcell]
      simp at hx1
      rw [List.getElem?_eq_getElem hlt, hx1]
    have hF : ∃ F : Nat → Nat → Int, ∀ i, i < len → ∀ j k, ks[j]? = some k → w.cell? (a.add (i * ks.length + j)) = some (.int k (F i j)) ∧ (Lit.int k (F i j)).wf = true := by
      have : ∀ i, ∃ f : Nat → Int, i < len → ∀ j k, ks[j]? = some k → w.cell? (a.add (i * ks.length + j)) = some (.int k (f j)) ∧ (Lit.int k (f j)).wf = true := by
        intro i
        by_cases hil : i < len
        · have : ∀ j, ∃ x : Int, ∀ k, ks[j]? = some k → w.cell? (a.add (i * ks.length + j)) = some (.int k x) ∧ (Lit.int k x).wf = true := by
            intro j
            cases hjk : ks[j]? with
            | none => exact ⟨0, fun k hk => by simp at hk⟩
            | some k => obtain ⟨x, hx⟩ := key i hil j k hjk; exact ⟨x, fun k' hk' => by cases hk'; exact hx⟩
          exact ⟨fun j => (this j).choose, fun _ j k hjk => (this j).choose_spec k hjk⟩
        · exact ⟨fun _ => 0, fun h => absurd h hil⟩
      exact ⟨fun i => (this i).choose, fun i hil => (this i).choose_spec hil⟩
    obtain ⟨F, hF⟩ := hF
    have cell : ∀ q, q < len * ks.length → ∃ k x, ks[q % ks.length]? = some k ∧ F (q / ks.length) (q % ks.length) = x ∧ w.cell? (a.add q) = some (.int k x) ∧ q / ks.length < len := by
      intro q hq
      have hp : 0 < ks.length := Nat.pos_of_ne_zero (fun e => by rw [e] at hq; simp at hq)
      have hm := Nat.mod_lt q hp
      have hd : q / ks.length < len := Nat.div_lt_of_lt_mul (by rw [Nat.mul_comm]; exact hq)
      have hk := List.getElem?_eq_getElem hm
      have := (hF _ hd _ _ hk).1
      rw [Nat.mul_comm, Nat.div_add_mod] at this
      exact ⟨_, _, hk, rfl, this, hd⟩
    refine ⟨len, F, (List.range (len * ks.length)).map (fun q => Value.int (ks.getD (q % ks.length) .i64) (F (q / ks.length) (q % ks.length))), ⟨some a, cap, rfl, hl, hm, by simp, by simp [Value.oneCell'], fun a' ha' q u hu => ?_⟩, by simp, fun i hil j k hjk => ?_⟩
    · cases ha'
      rw [List.getElem?_map, Option.map_eq_some_iff] at hu
      obtain ⟨q', hq', rfl⟩ := hu
      obtain ⟨hlt, rfl⟩ := List.getElem?_eq_some_iff.1 hq'
      simp only [List.length_range] at hlt
      obtain ⟨k, x, h1, h2, h3, _⟩ := cell q hlt
      simp only [List.getElem_range, List.getD_eq_getElem?_getD, h1, Option.getD_some, h2]
      exact h3
    · have hjl : j < ks.length := (List.getElem?_eq_some_iff.1 hjk).1
      have hq : i * ks.length + j < len * ks.length := by
        calc i * ks.length + j < i * ks.length + ks.length := by omega
          _ = (i + 1) * ks.length := by rw [Nat.add_mul, Nat.one_mul]
          _ ≤ len * ks.length := Nat.mul_le_mul_right _ hil
      have hmod : (i * ks.length + j) % ks.length = j := by rw [Nat.mul_comm, Nat.mul_add_mod, Nat.mod_eq_of_lt hjl]
      have hdiv : (i * ks.length + j) / ks.length = i := by
        rw [Nat.mul_comm, Nat.mul_add_div (by omega), Nat.div_eq_of_lt hjl, Nat.add_zero]
      refine ⟨?_, (hF i hil j k hjk).2⟩
      rw [List.getElem?_map, List.getElem?_range hq]
      simp only [Option.map_some, hmod, hdiv, List.getD_eq_getElem?_getD, hjk, Option.getD_some]

end

theorem Recs.cell {w : World} {ao : Option Addr} {n m cap : Nat} {ks : List IntKind} {F : Nat → Nat → Int} (h : Recs w (.slice ao m cap) n ks F) {i : Nat} (hi : i < n) (hk : 0 < ks.length) :
    ∃ b o, ao = some ⟨b, o, none⟩ ∧ b < w.heap.size ∧ ∀ (j : Nat) (k : IntKind), ks[j]? = some k → w.cell? ⟨b, o + (i * ks.length + j), none⟩ = some (.int k (F i j)) ∧ (Lit.int k (F i j)).wf = true := by
  obtain ⟨cs, ⟨ao', cap', hv, _, _, hn, _, h5⟩, hcl, hf⟩ := h
  cases hv
  cases ao with
  | none => obtain ⟨rfl, _⟩ := hn rfl; omega
  | some a =>
    have h0 := (hf 0 (by omega) 0 _ (List.getElem?_eq_getElem hk)).1
    simp only [Nat.zero_mul, Nat.zero_add] at h0
    have hc0 := h5 a rfl 0 _ h0
    have hlt := World.block_lt_of_cell? w _ hc0
    have hsp : a.spot = none := by
      unfold World.cell? at hc0
      have ha : a.add 0 = a := by simp [Addr.add]
      rw [ha] at hc0
      split at hc0
      · cases hs : a.spot with
        | none => rfl
        | some x => simp [hs] at hc0
      · cases hc0
    rw [add_block] at hlt
    obtain ⟨b, o, sp⟩ := a
    simp at hsp
    subst hsp
    refine ⟨b, o, rfl, hlt, fun j k hjk => ?_⟩
    obtain ⟨h1, h2⟩ := hf i hi j k hjk
    have := h5 _ rfl _ _ h1
    rw [Addr.add_lit] at this
    exact ⟨this, h2⟩
end Go.Proofs.Ytnadiddaeolanaa
