/- Heads, things opened. -/
import Derived.Test.YtnadiddaeolanaaOpen3
import Derived.Test.YtnadiddaeolanaaThings
namespace Go.Proofs.Ytnadiddaeolanaa
open Go.RowKit Go.ChangeShapes Go.WideShapes Go.Deep
set_option linter.unusedVariables false
section
variable {H : Type} {enc : TypeId × Value → H} {w : World} {base : Nat} {spare : Nat → Bool} {held : Bool}

theorem opens_u8 : Opens enc Try.prog w base spare held 5 (fun x : Int => [.int .u8 x]) (fun x => (Lit.int .u8 x).wf = true) := opens_int Try.underlying5
theorem opens_bl : Opens enc Try.prog w base spare held 4 (fun x : Bool => [.bool x]) (fun _ => True) := opens_bool Try.underlying4
theorem opens_head : Opens enc Try.prog w base spare held 122 (fun h : Hd => h.cells.toList) Hd.u8 := fun fuel cs x h => by
  have hl := opens_len Try.underlying122 h (size := 7) (by kernel_rfl)
  obtain ⟨a0, e0, k0⟩ := opens_field Try.underlying122 h 0 rfl (opens_u8) (off := 0) (size := 1) rfl (by kernel_rfl)
  obtain ⟨a1, e1, k1⟩ := opens_field Try.underlying122 h 1 rfl (opens_u8) (off := 1) (size := 1) rfl (by kernel_rfl)
  obtain ⟨a2, e2, -⟩ := opens_field Try.underlying122 h 2 rfl (opens_bl) (off := 2) (size := 1) rfl (by kernel_rfl)
  obtain ⟨a3, e3, -⟩ := opens_field Try.underlying122 h 3 rfl (opens_bl) (off := 3) (size := 1) rfl (by kernel_rfl)
  obtain ⟨a4, e4, k4⟩ := opens_field Try.underlying122 h 4 rfl (opens_u8) (off := 4) (size := 1) rfl (by kernel_rfl)
  obtain ⟨a5, e5, k5⟩ := opens_field Try.underlying122 h 5 rfl (opens_u8) (off := 5) (size := 1) rfl (by kernel_rfl)
  obtain ⟨a6, e6, k6⟩ := opens_field Try.underlying122 h 6 rfl (opens_u8) (off := 6) (size := 1) rfl (by kernel_rfl)
  refine ⟨⟨a0, a1, a2, a3, a4, a5, a6⟩, ?_, lit_wf_u8 k0, lit_wf_u8 k1, lit_wf_u8 k4, lit_wf_u8 k5, lit_wf_u8 k6⟩
  have := cut_all cs [1, 1, 1, 1, 1, 1, 1] 0 (by simpa using hl)
  simp only [cut, Nat.zero_add, Nat.reduceAdd, e0, e1, e2, e3, e4, e5, e6] at this
  rw [List.drop_zero] at this
  rw [this]; rfl
theorem opens_three : Opens enc Try.prog w base spare held 123 (fun p : Int × Int × Int => [.int .u8 p.1, .int .u8 p.2.1, .int .u8 p.2.2]) (fun p => (0 ≤ p.1 ∧ p.1 ≤ 255) ∧ (0 ≤ p.2.1 ∧ p.2.1 ≤ 255) ∧ (0 ≤ p.2.2 ∧ p.2.2 ≤ 255)) := fun fuel cs x h => by
  have hl := opens_alen Try.underlying123 h (size := 3) (by kernel_rfl)
  obtain ⟨a0, e0, k0⟩ := opens_array Try.underlying123 h 0 (by omega) (opens_u8) (size := 1) (by kernel_rfl)
  obtain ⟨a1, e1, k1⟩ := opens_array Try.underlying123 h 1 (by omega) (opens_u8) (size := 1) (by kernel_rfl)
  obtain ⟨a2, e2, k2⟩ := opens_array Try.underlying123 h 2 (by omega) (opens_u8) (size := 1) (by kernel_rfl)
  refine ⟨(a0, a1, a2), ?_, lit_wf_u8 k0, lit_wf_u8 k1, lit_wf_u8 k2⟩
  have := cut_all cs [1, 1, 1] 0 (by simpa using hl)
  simp only [Nat.zero_mul, Nat.one_mul, Nat.mul_one] at e0 e1 e2
  simp only [cut, Nat.zero_add, Nat.reduceAdd, e0, e1, e2] at this
  rw [List.drop_zero] at this
  rw [this]; rfl
theorem opens_thing : Opens enc Try.prog w base spare held 125 Th.cells Th.u8 := fun fuel cs x h => by
  have hl := opens_len Try.underlying125 h (size := 10) (by kernel_rfl)
  obtain ⟨a0, e0, k0⟩ := opens_field Try.underlying125 h 0 rfl (opens_head) (off := 0) (size := 7) rfl (by kernel_rfl)
  obtain ⟨⟨x0, x1, x2⟩, e1, k1⟩ := opens_field Try.underlying125 h 1 rfl (opens_three) (off := 7) (size := 3) rfl (by kernel_rfl)
  refine ⟨⟨a0, x0, x1, x2⟩, ?_, k0, k1⟩
  have := cut_all cs [7, 3] 0 (by simpa using hl)
  simp only [cut, Nat.zero_add, e0, e1] at this
  rw [List.drop_zero] at this
  rw [this]; rfl
theorem opens_things : Opens enc Try.prog w base spare held 34 (fun s : Value × List Th => [s.1]) (fun s => Rd w s.1 s.2.length (s.2.flatMap Th.cells) ∧ (∀ a ∈ s.2, a.u8) ∧ (∃ ao n cap, s.1 = .slice ao n cap) ∧ (s.1.ownBlock = none ∨ ∃ g, s.1.ownBlock = some g ∧ base ≤ g)) :=
  opens_slice Try.underlying34 opens_thing 10 (by kernel_rfl) (by omega) (fun _ => rfl) (fun a u hu => by
    simp only [Th.cells, List.mem_cons, List.not_mem_nil, or_false] at hu
    rcases hu with rfl | rfl | rfl | rfl | rfl | rfl | rfl | rfl | rfl | rfl <;> rfl)
end
end Go.Proofs.Ytnadiddaeolanaa
