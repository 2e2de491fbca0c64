/- A heap of stage 21, opened. -/
import Derived.Test.YtnadiddaeolanaaOpen3
import Derived.Test.YtnadiddaeolanaaWords21b
namespace Go.Proofs.Ytnadiddaeolanaa
open Go.RowKit Go.ChangeShapes Go.WideShapes Go.Deep
set_option linter.unusedVariables false
section
variable {H : Type} {enc : TypeId × Value → H} {w : World} {base : Nat} {spare : Nat → Bool} {held : Bool}

theorem opens_u8 : Opens enc Try.prog w base spare held 5 (fun x : Int => [.int .u8 x]) (fun x => (Lit.int .u8 x).wf = true) := opens_int Try.underlying5
theorem opens_bl : Opens enc Try.prog w base spare held 4 (fun x : Bool => [.bool x]) (fun _ => True) := opens_bool Try.underlying4
theorem opens_head : Opens enc Try.prog w base spare held 122 (fun h : Hd => h.cells.toList) Hd.u8 := fun fuel cs x h => by
  have hl := opens_len Try.underlying122 h (size := 7) (by kernel_rfl)
  obtain ⟨a0, e0, k0⟩ := opens_field Try.underlying122 h 0 rfl (opens_u8) (off := 0) (size := 1) rfl (by kernel_rfl)
  obtain ⟨a1, e1, k1⟩ := opens_field Try.underlying122 h 1 rfl (opens_u8) (off := 1) (size := 1) rfl (by kernel_rfl)
  obtain ⟨a2, e2, -⟩ := opens_field Try.underlying122 h 2 rfl (opens_bl) (off := 2) (size := 1) rfl (by kernel_rfl)
  obtain ⟨a3, e3, -⟩ := opens_field Try.underlying122 h 3 rfl (opens_bl) (off := 3) (size := 1) rfl (by kernel_rfl)
  obtain ⟨a4, e4, k4⟩ := opens_field Try.underlying122 h 4 rfl (opens_u8) (off := 4) (size := 1) rfl (by kernel_rfl)
  obtain ⟨a5, e5, k5⟩ := opens_field Try.underlying122 h 5 rfl (opens_u8) (off := 5) (size := 1) rfl (by kernel_rfl)
  obtain ⟨a6, e6, k6⟩ := opens_field Try.underlying122 h 6 rfl (opens_u8) (off := 6) (size := 1) rfl (by kernel_rfl)
  refine ⟨⟨a0, a1, a2, a3, a4, a5, a6⟩, ?_, lit_wf_u8 k0, lit_wf_u8 k1, lit_wf_u8 k4, lit_wf_u8 k5, lit_wf_u8 k6⟩
  have := cut_all cs [1, 1, 1, 1, 1, 1, 1] 0 (by simpa using hl)
  simp only [cut, Nat.zero_add, Nat.reduceAdd, e0, e1, e2, e3, e4, e5, e6] at this
  rw [List.drop_zero] at this
  rw [this]; rfl

theorem opens_bytes : Opens enc Try.prog w base spare held 82 (fun s : Value × List Int => [s.1]) (fun s => Rd w s.1 s.2.length (s.2.flatMap fun x : Int => [.int .u8 x]) ∧ (∀ a ∈ s.2, (Lit.int .u8 a).wf = true) ∧ (∃ ao n cap, s.1 = .slice ao n cap) ∧ (s.1.ownBlock = none ∨ ∃ g, s.1.ownBlock = some g ∧ base ≤ g)) :=
  opens_slice Try.underlying82 opens_u8 1 (by kernel_rfl) (by omega) (fun _ => rfl) (fun a u hu => by
    simp only [List.mem_cons, List.not_mem_nil, or_false] at hu
    subst hu
    rfl)

/-- A cell's data: its header; where its row lies; the row. -/
abbrev ClD := Hd × (Option Addr × Nat × Nat) × List Int
def ClD.fv (x : ClD) : Value := .slice x.2.1.1 x.2.1.2.1 x.2.1.2.2
def ClD.cells (x : ClD) : List Value := x.1.cells.toList ++ [ClD.fv x]
theorem opens_cell : Opens enc Try.prog w base spare held 153 ClD.cells (fun x => x.1.u8 ∧ Rd w (ClD.fv x) x.2.2.length (x.2.2.flatMap fun y : Int => [.int .u8 y]) ∧ ∀ a ∈ x.2.2, (Lit.int .u8 a).wf = true) := fun fuel cs x h => by
  have hl := opens_len Try.underlying153 h (size := 8) (by kernel_rfl)
  obtain ⟨a0, e0, k0⟩ := opens_field Try.underlying153 h 0 rfl (opens_head) (off := 0) (size := 7) rfl (by kernel_rfl)
  obtain ⟨⟨v, l⟩, e1, k1, k2, ⟨ao, n, cap, hv⟩, -⟩ := opens_field Try.underlying153 h 1 rfl (opens_bytes) (off := 7) (size := 1) rfl (by kernel_rfl)
  dsimp only at hv k1 k2 e1
  subst hv
  refine ⟨(a0, (ao, n, cap), l), ?_, k0, k1, k2⟩
  have := cut_all cs [7, 1] 0 (by simpa using hl)
  simp only [cut, Nat.zero_add, e0, e1] at this
  rw [List.drop_zero] at this
  rw [this]; rfl
theorem opens_cells : Opens enc Try.prog w base spare held 83 (fun s : Value × List ClD => [s.1]) (fun s => Rd w s.1 s.2.length (s.2.flatMap ClD.cells) ∧ (∀ x ∈ s.2, x.1.u8 ∧ Rd w (ClD.fv x) x.2.2.length (x.2.2.flatMap fun y : Int => [.int .u8 y]) ∧ ∀ a ∈ x.2.2, (Lit.int .u8 a).wf = true) ∧ (∃ ao n cap, s.1 = .slice ao n cap) ∧ (s.1.ownBlock = none ∨ ∃ g, s.1.ownBlock = some g ∧ base ≤ g)) :=
  opens_slice Try.underlying83 opens_cell 8 (by kernel_rfl) (by omega) (fun _ => rfl) (fun a u hu => by
    simp only [ClD.cells, Hd.cells, ClD.fv, List.mem_append, List.mem_cons, List.not_mem_nil, or_false] at hu
    rcases hu with (rfl | rfl | rfl | rfl | rfl | rfl | rfl) | rfl <;> rfl)
theorem opens_two : Opens enc Try.prog w base spare held 84 (fun p : Int × Int => [.int .u8 p.1, .int .u8 p.2]) (fun p => (0 ≤ p.1 ∧ p.1 ≤ 255) ∧ (0 ≤ p.2 ∧ p.2 ≤ 255)) := fun fuel cs x h => by
  have hl := opens_alen Try.underlying84 h (size := 2) (by kernel_rfl)
  obtain ⟨a0, e0, k0⟩ := opens_array Try.underlying84 h 0 (by omega) (opens_u8) (size := 1) (by kernel_rfl)
  obtain ⟨a1, e1, k1⟩ := opens_array Try.underlying84 h 1 (by omega) (opens_u8) (size := 1) (by kernel_rfl)
  refine ⟨(a0, a1), ?_, lit_wf_u8 k0, lit_wf_u8 k1⟩
  have := cut_all cs [1, 1] 0 (by simpa using hl)
  simp only [Nat.zero_mul, Nat.one_mul, Nat.mul_one] at e0 e1
  simp only [cut, Nat.zero_add, Nat.reduceAdd, e0, e1] at this
  rw [List.drop_zero] at this
  rw [this]; rfl
/-- A heap's data: blocks, cells, two roots, and where the rows lie. -/
theorem opens_heap : Opens enc Try.prog w base spare held 86 (fun s : (Value × List Int) × (Value × List ClD) × (Int × Int) => [s.1.1, s.2.1.1, .int .u8 s.2.2.1, .int .u8 s.2.2.2])
    (fun s => (Rd w s.1.1 s.1.2.length (s.1.2.flatMap fun x : Int => [.int .u8 x]) ∧ (∀ a ∈ s.1.2, (Lit.int .u8 a).wf = true)) ∧ (Rd w s.2.1.1 s.2.1.2.length (s.2.1.2.flatMap ClD.cells) ∧ (∀ x ∈ s.2.1.2, x.1.u8 ∧ Rd w (ClD.fv x) x.2.2.length (x.2.2.flatMap fun y : Int => [.int .u8 y]) ∧ ∀ a ∈ x.2.2, (Lit.int .u8 a).wf = true)) ∧ (0 ≤ s.2.2.1 ∧ s.2.2.1 ≤ 255) ∧ (0 ≤ s.2.2.2 ∧ s.2.2.2 ≤ 255)) := fun fuel cs x h => by
  have hl := opens_len Try.underlying86 h (size := 4) (by kernel_rfl)
  obtain ⟨⟨v0, l0⟩, e0, k0, k0', -⟩ := opens_field Try.underlying86 h 0 rfl (opens_bytes) (off := 0) (size := 1) rfl (by kernel_rfl)
  obtain ⟨⟨v1, l1⟩, e1, k1, k1', -⟩ := opens_field Try.underlying86 h 1 rfl (opens_cells) (off := 1) (size := 1) rfl (by kernel_rfl)
  obtain ⟨⟨r0, r1⟩, e2, k2⟩ := opens_field Try.underlying86 h 2 rfl (opens_two) (off := 2) (size := 2) rfl (by kernel_rfl)
  refine ⟨((v0, l0), (v1, l1), (r0, r1)), ?_, ⟨k0, k0'⟩, ⟨k1, k1'⟩, k2.1, k2.2⟩
  have := cut_all cs [1, 1, 2] 0 (by simpa using hl)
  simp only [cut, Nat.zero_add, Nat.reduceAdd, e0, e1, e2] at this
  rw [List.drop_zero] at this
  rw [this]; rfl
end

def ClD.cl (x : ClD) : Cl := ⟨x.1, ClD.fv x, x.2.2⟩
theorem flat_u8 (l : List Int) : (l.flatMap fun x : Int => [Value.int .u8 x]) = u8s l := by
  unfold u8s
  induction l with
  | nil => rfl
  | cons x l ih => rw [List.flatMap_cons, ih]; rfl
theorem flat_cl (l : List ClD) : l.flatMap ClD.cells = (l.map ClD.cl).flatMap Cl.cells := by
  rw [List.flatMap_map]; rfl
theorem rd_small {w : World} {v : Value} {n : Nat} {cs : List Value} (h : Rd w v n cs) : (n : Int) ≤ 9223372036854775807 := by
  obtain ⟨ao, cap, _, h1, h2⟩ := h.shape
  simp only [maxLen] at h2
  omega
theorem heap_in {w : World} {v0 v1 : Value} {l0 : List Int} {l1 : List ClD} {r0 r1 : Int} (k0 : Rd w v0 l0.length (l0.flatMap fun x : Int => [.int .u8 x])) (k0' : ∀ a ∈ l0, (Lit.int .u8 a).wf = true)
    (k1 : Rd w v1 l1.length (l1.flatMap ClD.cells)) (k1' : ∀ x ∈ l1, x.1.u8 ∧ Rd w (ClD.fv x) x.2.2.length (x.2.2.flatMap fun y : Int => [.int .u8 y]) ∧ ∀ a ∈ x.2.2, (Lit.int .u8 a).wf = true) (h0 : 0 ≤ r0 ∧ r0 ≤ 255) (h1 : 0 ≤ r1 ∧ r1 ≤ 255) :
    HpIn w v0 v1 l0 (l1.map ClD.cl) r0 r1 := by
  refine ⟨by rw [← flat_u8]; exact k0, fun x hx => lit_wf_u8 (k0' x hx), by rw [List.length_map, ← flat_cl]; exact k1, fun x hx => ?_, h0, h1, rd_small k0, by rw [List.length_map]; exact rd_small k1⟩
  obtain ⟨y, hy, rfl⟩ := List.mem_map.1 hx
  obtain ⟨a, b, c⟩ := k1' y hy
  exact ⟨a, fun z hz => lit_wf_u8 (c z hz), by unfold ClD.cl; dsimp only; rw [← flat_u8]; exact b⟩
open Go.RowKit Go.ChangeShapes Go.WideShapes

set_option maxRecDepth 100000 in
theorem heap_opened {H : Type} {enc : TypeId × Value → H} {base : Nat} {W : World} {v0 : Value} {d0 : DataW H} {p0 : List MemPlace}
    (ok0 : Value.okWide Try.prog W .any base 86 v0) (h0 : DataW.Trod enc Try.prog W 0 (fun _ => true) true 86 v0 d0 p0) :
    ∃ bv cv bl cs r0 r1, v0 = heapV bv cv r0 r1 ∧ HpIn W bv cv bl cs r0 r1 := by
  obtain ⟨cs, rfl, -⟩ := okWide_struct Try.underlying86 ok0
  obtain ⟨fuel, h0⟩ := h0
  rw [show (Value.agg cs).cells = cs from rfl] at h0
  obtain ⟨⟨⟨bv, bl⟩, ⟨cv, cl⟩, r0, r1⟩, hv, ⟨k0, k0'⟩, ⟨k1, k1'⟩, k2, k3⟩ := opens_heap _ _ _ h0
  dsimp only at hv k0 k0' k1 k1' k2 k3
  refine ⟨bv, cv, bl, cl.map ClD.cl, r0, r1, ?_, heap_in k0 k0' k1 k1' k2 k3⟩
  unfold heapV
  rw [← Array.toArray_toList (xs := cs), hv]
end Go.Proofs.Ytnadiddaeolanaa
