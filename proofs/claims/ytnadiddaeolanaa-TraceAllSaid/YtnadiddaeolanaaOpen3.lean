/- Arguments opened: structs of structs, arrays, slices of them, as a function of cells. -/
import Derived.Test.YtnadiddaeolanaaOpen2
import Derived.OpenShut
namespace Go.Proofs.Ytnadiddaeolanaa
open Go.RowKit Go.ChangeShapes Go.WideShapes Go.Deep
set_option linter.unusedVariables false

/-- Pieces of a row of cells, one behind the other. -/
def cut (cs : List Value) : Nat → List Nat → List (List Value)
  | _, [] => []
  | off, s :: ss => (cs.drop off).take s :: cut cs (off + s) ss
theorem cut_all (cs : List Value) : ∀ (ss : List Nat) (off : Nat), cs.length = off + ss.sum → cs.drop off = (cut cs off ss).flatten
  | [], off, h => by
    simp only [List.sum_nil, Nat.add_zero] at h
    rw [List.drop_of_length_le (by omega)]; rfl
  | s :: ss, off, h => by
    simp only [List.sum_cons] at h
    rw [cut, List.flatten_cons, ← cut_all cs ss (off + s) (by omega), ← List.drop_drop, List.take_append_drop]

/-- A value of a type reads as one of α. -/
def Opens {H : Type} (enc : TypeId × Value → H) (P : Program) (w : World) (base : Nat) (spare : Nat → Bool) (held : Bool) (t : TypeId) {α : Type} (cells : α → List Value) (ok : α → Prop) : Prop :=
  ∀ (fuel : Nat) (cs : List Value) (x : DataW H × List MemPlace), DataW.trod enc P w base spare held fuel t cs = some x → ∃ a, cs = cells a ∧ ok a

section
variable {H : Type} {enc : TypeId × Value → H} {P : Program} {w : World} {base : Nat} {spare : Nat → Bool} {held : Bool}

theorem opens_int {t : TypeId} {k : IntKind} (ht : P.underlying t = some (.int k)) : Opens enc P w base spare held t (fun x : Int => [.int k x]) (fun x => (Lit.int k x).wf = true) := fun fuel cs x h => by
  obtain ⟨n, h1, _, h3⟩ := DataW.trod_int ht h
  exact ⟨n, h1, h3⟩
theorem opens_bool {t : TypeId} (ht : P.underlying t = some .bool) : Opens enc P w base spare held t (fun x : Bool => [.bool x]) (fun _ => True) := fun fuel cs x h => by
  obtain ⟨n, h1, _⟩ := DataW.trod_bool ht h
  exact ⟨n, h1, trivial⟩
theorem opens_field {t : TypeId} {fs : Array Field} {fuel : Nat} {cs : List Value} {x : DataW H × List MemPlace} (ht : P.underlying t = some (.struct fs)) (h : DataW.trod enc P w base spare held fuel t cs = some x)
    (i : Nat) {f : Field} (hf : fs[i]? = some f) {α : Type} {cells : α → List Value} {ok : α → Prop} (O : Opens enc P w base spare held f.type cells ok) {off size : Nat} (ho : f.offset = off) (hs : P.cellsOf f.type = size) : ∃ a, (cs.drop off).take size = cells a ∧ ok a := by
  obtain ⟨xs, n, _, _, _, hl, hg⟩ := DataW.trod_struct ht h
  have := hg i f hf
  have hi : i < xs.length := by rw [hl]; exact (Array.getElem?_eq_some_iff.1 hf).1
  rw [List.getElem?_eq_getElem hi] at this
  subst ho; subst hs
  exact O n _ _ this
theorem opens_len {t : TypeId} {fs : Array Field} {fuel : Nat} {cs : List Value} {x : DataW H × List MemPlace} (ht : P.underlying t = some (.struct fs)) (h : DataW.trod enc P w base spare held fuel t cs = some x) {size : Nat} (hs : P.cellsOf t = size) : cs.length = size := by
  obtain ⟨xs, n, _, _, hc, _⟩ := DataW.trod_struct ht h
  rw [hc, hs]
theorem opens_array {t e : TypeId} {n : Nat} {fuel : Nat} {cs : List Value} {x : DataW H × List MemPlace} (ht : P.underlying t = some (.array n e)) (h : DataW.trod enc P w base spare held fuel t cs = some x)
    (i : Nat) (hi : i < n) {α : Type} {cells : α → List Value} {ok : α → Prop} (O : Opens enc P w base spare held e cells ok) {size : Nat} (hs : P.cellsOf e = size) : ∃ a, (cs.drop (i * size)).take size = cells a ∧ ok a := by
  obtain ⟨xs, m, _, _, _, hl, hg⟩ := DataW.trod_array ht h
  have := hg i hi
  rw [List.getElem?_eq_getElem (by omega)] at this
  subst hs
  exact O m _ _ this
theorem opens_alen {t e : TypeId} {n : Nat} {fuel : Nat} {cs : List Value} {x : DataW H × List MemPlace} (ht : P.underlying t = some (.array n e)) (h : DataW.trod enc P w base spare held fuel t cs = some x) {size : Nat} (hs : P.cellsOf t = size) : cs.length = size := by
  obtain ⟨xs, m, _, _, hc, _⟩ := DataW.trod_array ht h
  rw [hc, hs]

theorem flatMap_get {α : Type} (f : α → List Value) (m : Nat) (hf : ∀ a, (f a).length = m) (l : List α) (i j : Nat) (hj : j < m) : (l.flatMap f)[i * m + j]? = (l[i]?).bind fun a => (f a)[j]? := by
  induction l generalizing i with
  | nil => simp
  | cons a l ih =>
    cases i with
    | zero => rw [List.flatMap_cons, List.getElem?_append_left (by rw [hf]; omega)]; simp
    | succ i =>
      rw [List.flatMap_cons, Nat.add_mul, Nat.one_mul, List.getElem?_append_right (by rw [hf]; omega), hf, show i * m + m + j - m = i * m + j from by omega, ih]
      simp
theorem flatMap_len {α : Type} (f : α → List Value) (m : Nat) (hf : ∀ a, (f a).length = m) (l : List α) : (l.flatMap f).length = l.length * m := by
  induction l with
  | nil => simp
  | cons a l ih => rw [List.flatMap_cons, List.length_append, ih, hf, List.length_cons, Nat.add_mul, Nat.one_mul]; omega

/-- A slice: its value, and what its elements are. -/
theorem opens_slice {t e : TypeId} (ht : P.underlying t = some (.slice e)) {α : Type} {cells : α → List Value} {ok : α → Prop} (O : Opens enc P w base spare held e cells ok) (m : Nat) (hC : P.cellsOf e = m) (hm : 0 < m) (hlen : ∀ a, (cells a).length = m)
    (hone : ∀ a, ∀ u ∈ cells a, u.oneCell' = true) : Opens enc P w base spare held t (fun s : Value × List α => [s.1]) (fun s => Rd w s.1 s.2.length (s.2.flatMap cells) ∧ (∀ a ∈ s.2, ok a) ∧ (∃ ao n cap, s.1 = .slice ao n cap) ∧ (s.1.ownBlock = none ∨ ∃ g, s.1.ownBlock = some g ∧ base ≤ g)) := fun fuel cs x h => by
  rcases open_slice ht h with ⟨hcs, _⟩ | ⟨a, len, cap, mm, n, D, Pl, hcs, hb, hl, hm', hmm, hx, hi⟩
  · exact ⟨(.slice none 0 0, []), hcs, Rd.nil w, by simp, ⟨_, _, _, rfl⟩, .inl rfl⟩
  · have hlm : len ≤ mm := by rw [hmm]; split <;> omega
    have key : ∀ i, i < len → ∃ y : α, ok y ∧ ∀ j u, (cells y)[j]? = some u → w.cell? (a.add (i * m + j)) = some u := fun i hil => by
      obtain ⟨cs', hc, ht'⟩ := hi i (by omega)
      rw [hC] at hc
      obtain ⟨_, hcl, hat⟩ := World.cells?_some hc
      obtain ⟨y, hy, hok⟩ := O n cs' _ ht'
      refine ⟨y, hok, fun j u hu => ?_⟩
      have hj : j < m := by rw [← hlen y]; exact (List.getElem?_eq_some_iff.1 hu).1
      have := hat j hj
      rw [Go.Deep.add_add, hy, hu] at this
      exact this
    have hl2 : ∃ l : List α, l.length = len ∧ ∀ i y, l[i]? = some y → ok y ∧ ∀ j u, (cells y)[j]? = some u → w.cell? (a.add (i * m + j)) = some u := by
      have : ∀ q, q ≤ len → ∃ l : List α, l.length = q ∧ ∀ i y, l[i]? = some y → ok y ∧ ∀ j u, (cells y)[j]? = some u → w.cell? (a.add (i * m + j)) = some u := by
        intro q
        induction q with
        | zero => exact fun _ => ⟨[], rfl, by simp⟩
        | succ q ih =>
          intro hq
          obtain ⟨l, hl1, hl2⟩ := ih (by omega)
          obtain ⟨y, hy1, hy2⟩ := key q (by omega)
          refine ⟨l ++ [y], by simp [hl1], fun i z hz => ?_⟩
          by_cases hi' : i < l.length
          · rw [List.getElem?_append_left hi'] at hz
            exact hl2 i z hz
          · have hz' := (List.getElem?_eq_some_iff.1 hz).1
            simp at hz'
            obtain rfl : i = q := by omega
            rw [List.getElem?_append_right (by omega), hl1, Nat.sub_self] at hz
            simp at hz
            subst hz
            exact ⟨hy1, hy2⟩
      exact this len (Nat.le_refl _)
    obtain ⟨l, hl1, hl2⟩ := hl2
    refine ⟨(.slice (some a) len cap, l), hcs, ⟨some a, cap, by rw [hl1], by rw [hl1]; exact hl, hm', by simp, fun u hu => ?_, fun a' ha' q u hu => ?_⟩, fun y hy => ?_, ⟨_, _, _, rfl⟩, .inr ⟨_, rfl, hb⟩⟩
    · obtain ⟨y, _, hu⟩ := List.mem_flatMap.1 hu
      exact hone y u hu
    · cases ha'
      have hq : q < l.length * m := by rw [← flatMap_len cells m hlen l]; exact (List.getElem?_eq_some_iff.1 hu).1
      have hmod := Nat.mod_lt q hm
      have hq2 : q / m * m + q % m = q := by rw [Nat.mul_comm]; exact Nat.div_add_mod q m
      rw [← hq2] at hu ⊢
      rw [flatMap_get cells m hlen l _ _ hmod] at hu
      obtain ⟨y, h1, h2⟩ := Option.bind_eq_some_iff.1 hu
      exact (hl2 _ y h1).2 _ u h2
    · obtain ⟨i, hi1, rfl⟩ := List.getElem_of_mem hy
      exact (hl2 i _ (List.getElem?_eq_getElem hi1)).1
end
end Go.Proofs.Ytnadiddaeolanaa
