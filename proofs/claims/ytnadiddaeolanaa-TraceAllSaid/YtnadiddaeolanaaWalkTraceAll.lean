/- The walk of TraceAll. -/
import Derived.Test.YtnadiddaeolanaaTraceAll
import Derived.Test.YtnadiddaeolanaaOpenHeap
namespace Go.Proofs.Ytnadiddaeolanaa
open Go.RowKit Go.ChangeShapes Go.WideShapes

set_option maxRecDepth 100000 in
theorem lawTraceAll_walk {H : Type} {enc : TypeId × Value → H} {base : Nat} (W : World) {v0 v1 : Value} {d0 d1 : DataW H} {p0 p1 : List MemPlace}
    (ok0 : Value.okWide Try.prog W .any base 86 v0) (h0 : DataW.Trod enc Try.prog W 0 (fun _ => true) true 86 v0 d0 p0)
    (ok1 : Value.okWide Try.prog W .any base 5 v1) (h1 : DataW.Trod enc Try.prog W 0 (fun _ => true) true 5 v1 d1 p1) :
    Calls Try.prog 8 #[v0, v1] W fun e w' => e = .returned (.bool true) ∧ Below W.heap.size W w' := by
  obtain ⟨c, rfl, rfl, rfl, w1⟩ := open_int Try.underlying5 ok1 h1
  obtain ⟨bv, cv, bl, cs, r0, r1, rfl, hh⟩ := heap_opened ok0 h0
  refine (trace_all_law bv cv bl cs r0 r1 c (lit_wf_u8 w1) W hh).mono ?_
  rintro e w' ⟨rfl, K⟩
  exact ⟨rfl, K.below (Nat.le_refl _) (by simp)⟩
end Go.Proofs.Ytnadiddaeolanaa
