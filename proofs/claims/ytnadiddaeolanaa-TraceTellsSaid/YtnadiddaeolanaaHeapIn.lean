/- A heap of stage 21 that comes in. -/
import Derived.Test.YtnadiddaeolanaaOpenHeap
namespace Go.Proofs.Ytnadiddaeolanaa
open Go.RowKit Go.ChangeShapes Go.WideShapes

set_option maxRecDepth 100000 in
theorem heap_opened {H : Type} {enc : TypeId × Value → H} {base : Nat} {W : World} {v0 : Value} {d0 : DataW H} {p0 : List MemPlace}
    (ok0 : Value.okWide Try.prog W .any base 86 v0) (h0 : DataW.Trod enc Try.prog W 0 (fun _ => true) true 86 v0 d0 p0) :
    ∃ bv cv bl cs r0 r1, v0 = heapV bv cv r0 r1 ∧ HpIn W bv cv bl cs r0 r1 := by
  obtain ⟨cs, rfl, -⟩ := okWide_struct Try.underlying86 ok0
  obtain ⟨fuel, h0⟩ := h0
  rw [show (Value.agg cs).cells = cs from rfl] at h0
  obtain ⟨⟨⟨bv, bl⟩, ⟨cv, cl⟩, r0, r1⟩, hv, ⟨k0, k0'⟩, ⟨k1, k1'⟩, k2, k3⟩ := opens_heap _ _ _ h0
  dsimp only at hv k0 k0' k1 k1' k2 k3
  refine ⟨bv, cv, bl, cl.map ClD.cl, r0, r1, ?_, heap_in k0 k0' k1 k1' k2 k3⟩
  unfold heapV
  rw [← Array.toArray_toList (xs := cs), hv]
end Go.Proofs.Ytnadiddaeolanaa
