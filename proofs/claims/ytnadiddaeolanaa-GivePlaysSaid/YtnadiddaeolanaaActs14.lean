/- The acts of GivePlays: opened, read. -/
import Derived.Test.YtnadiddaeolanaaWakes14
import Derived.Test.YtnadiddaeolanaaThings
import Derived.Test.YtnadiddaeolanaaOpenTh
namespace Go.Proofs.Ytnadiddaeolanaa
open Go.RowKit Go.ChangeShapes Go.WideShapes Go.Deep
set_option linter.unusedVariables false
set_option linter.unusedSimpArgs false

structure Ac where
  d : Int
  b : Int
  r : Int
  o : Int
  e : En
def Ac.cells (a : Ac) : List Value := [.int .u8 a.d, .int .i64 a.b, .int .i64 a.r, .int .u8 a.o, .int .u8 a.e.k, .int .u8 a.e.c, .int .u8 a.e.r, .int .u8 a.e.o]
def Ac.ok (a : Ac) : Prop := a.e.u8 ∧ (0 ≤ a.o ∧ a.o ≤ 255)
section
variable {H : Type} {enc : TypeId × Value → H} {w : World} {base : Nat} {spare : Nat → Bool} {held : Bool}
theorem opens_i64 : Opens enc Try.prog w base spare held 3 (fun x : Int => [.int .i64 x]) (fun x => (Lit.int .i64 x).wf = true) := opens_int Try.underlying3
theorem opens_en : Opens enc Try.prog w base spare held 61 (fun e : En => [.int .u8 e.k, .int .u8 e.c, .int .u8 e.r, .int .u8 e.o]) En.u8 := fun fuel cs x h => by
  have hl := opens_len Try.underlying61 h (size := 4) (by kernel_rfl)
  obtain ⟨a0, e0, k0⟩ := opens_field Try.underlying61 h 0 rfl (opens_u8) (off := 0) (size := 1) rfl (by kernel_rfl)
  obtain ⟨a1, e1, k1⟩ := opens_field Try.underlying61 h 1 rfl (opens_u8) (off := 1) (size := 1) rfl (by kernel_rfl)
  obtain ⟨a2, e2, k2⟩ := opens_field Try.underlying61 h 2 rfl (opens_u8) (off := 2) (size := 1) rfl (by kernel_rfl)
  obtain ⟨a3, e3, k3⟩ := opens_field Try.underlying61 h 3 rfl (opens_u8) (off := 3) (size := 1) rfl (by kernel_rfl)
  refine ⟨⟨a0, a1, a2, a3⟩, ?_, lit_wf_u8 k0, lit_wf_u8 k1, lit_wf_u8 k2, lit_wf_u8 k3⟩
  have := cut_all cs [1, 1, 1, 1] 0 (by simpa using hl)
  simp only [cut, Nat.zero_add, Nat.reduceAdd, e0, e1, e2, e3] at this
  rw [List.drop_zero] at this
  rw [this]; rfl
theorem opens_ac : Opens enc Try.prog w base spare held 63 Ac.cells Ac.ok := fun fuel cs x h => by
  have hl := opens_len Try.underlying63 h (size := 8) (by kernel_rfl)
  obtain ⟨a0, e0, k0⟩ := opens_field Try.underlying63 h 0 rfl (opens_u8) (off := 0) (size := 1) rfl (by kernel_rfl)
  obtain ⟨a1, e1, k1⟩ := opens_field Try.underlying63 h 1 rfl (opens_i64) (off := 1) (size := 1) rfl (by kernel_rfl)
  obtain ⟨a2, e2, k2⟩ := opens_field Try.underlying63 h 2 rfl (opens_i64) (off := 2) (size := 1) rfl (by kernel_rfl)
  obtain ⟨a3, e3, k3⟩ := opens_field Try.underlying63 h 3 rfl (opens_u8) (off := 3) (size := 1) rfl (by kernel_rfl)
  obtain ⟨a4, e4, k4⟩ := opens_field Try.underlying63 h 4 rfl (opens_en) (off := 4) (size := 4) rfl (by kernel_rfl)
  refine ⟨⟨a0, a1, a2, a3, a4⟩, ?_, k4, lit_wf_u8 k3⟩
  have := cut_all cs [1, 1, 1, 1, 4] 0 (by simpa using hl)
  simp only [cut, Nat.zero_add, Nat.reduceAdd, e0, e1, e2, e3, e4] at this
  rw [List.drop_zero] at this
  rw [this]; rfl
theorem opens_acts : Opens enc Try.prog w base spare held 51 (fun s : Value × List Ac => [s.1]) (fun s => Rd w s.1 s.2.length (s.2.flatMap Ac.cells) ∧ (∀ a ∈ s.2, a.ok) ∧ (∃ ao n cap, s.1 = .slice ao n cap) ∧ (s.1.ownBlock = none ∨ ∃ g, s.1.ownBlock = some g ∧ base ≤ g)) :=
  opens_slice Try.underlying51 opens_ac 8 (by kernel_rfl) (by omega) (fun _ => rfl) (fun a u hu => by
    simp only [Ac.cells, List.mem_cons, List.not_mem_nil, or_false] at hu
    rcases hu with rfl | rfl | rfl | rfl | rfl | rfl | rfl | rfl <;> rfl)
end
/-- A slice of acts. -/
structure Acs (w : World) (v : Value) (l : List Ac) : Prop where
  rd : Rd w v l.length (l.flatMap Ac.cells)
  ok : ∀ t ∈ l, t.ok
theorem Acs.cell {w : World} {ao : Option Addr} {n cap : Nat} {l : List Ac} (h : Acs w (.slice ao n cap) l) {k : Nat} {t : Ac} (hk : l[k]? = some t) :
    ∃ b o, ao = some ⟨b, o, none⟩ ∧ b < w.heap.size ∧ ∀ i u, t.cells[i]? = some u → w.cell? ⟨b, o + k * 8 + i, none⟩ = some u := by
  have hlt : k < l.length := (List.getElem?_eq_some_iff.1 hk).1
  obtain ⟨b, o, rfl, hb, hc⟩ := h.rd.some (by rw [flat_len _ 8 (fun t => rfl)]; omega)
  refine ⟨b, o, rfl, hb, fun i u hu => ?_⟩
  have hi : i < 8 := (List.getElem?_eq_some_iff.1 hu).1
  rw [Nat.add_assoc]
  refine hc _ u ?_
  rw [flat_get _ 8 (fun t => rfl) l k i hi, hk]
  exact hu

/-- Where things lie. -/
structure Ords (w : World) (b g z7 base z9 : Nat) : Prop where
  wb : w.heap.size ≤ b
  wg : w.heap.size ≤ g
  b7 : b < z7
  g7 : g < z7
  h7 : z7 < base
  h9 : base ≤ z9
/-- What stands between two acts. -/
def GvAt (w : World) (b g z7 base z9 n : Nat) (wx : World) (t : Int) : Prop := ∃ (m : Nat) (E : List Int) (ao : Option Addr) (cap : Nat), Ga wx b g n m E t ∧ Ents wx base (.slice ao n cap) n E ∧
  wx.heap[z7]? = some (.cells #[.int .i64 1, .int .i64 1, .int .i64 n] 53 (0, 0)) ∧ wx.heap[z9]? = some (.cells #[.int .i64 n, .int .u64 m, .slice ao n cap] 58 (0, 0)) ∧ Keep [] w wx
theorem GvAt.next {w wx w3 w4 w5 : World} {b g z7 base z9 n m' : Nat} {E' : List Int} {t' : Int} {ao' : Option Addr} {cap' : Nat} {cs : Array Value} (o : Ords w b g z7 base z9) (hk : Keep [] w wx)
    (h7 : wx.heap[z7]? = some (.cells #[.int .i64 1, .int .i64 1, .int .i64 n] 53 (0, 0))) (h9 : wx.heap[z9]? = some (.cells cs 58 (0, 0)))
    (k3 : Keep [b, g] wx w3) (A3 : Ga w3 b g n m' E' t') (E4 : Ents w4 base (.slice ao' n cap') n E') (k4 : Keep [] w3 w4) (k5 : Keep [z9] w4 w5)
    (h5 : w5.heap[z9]? = some (.cells #[.int .i64 n, .int .u64 m', .slice ao' n cap'] 58 (0, 0))) : GvAt w b g z7 base z9 n w5 t' := by
  obtain ⟨o1, o2, o3, o4, o5, o6⟩ := o
  have q3 := k3.get h9 (by simp; omega)
  have q4 := k4.get q3 (by simp)
  have p4 := k4.get (k3.get h7 (by simp; omega)) (by simp)
  refine ⟨m', E', ao', cap', (A3.keep k4 (by simp) (by simp)).keep k5 (by simp; omega) (by simp; omega), E4.beside q4 (by decide) k5, k5.get p4 (by simp; omega), h5, ?_⟩
  exact ((hk.fresh k3 (by simp; omega)).trans k4).fresh k5 (by simp; omega)
end Go.Proofs.Ytnadiddaeolanaa
