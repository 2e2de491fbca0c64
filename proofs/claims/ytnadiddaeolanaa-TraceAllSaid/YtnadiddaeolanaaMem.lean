/- An arena's methods by way of the interface. -/
import Derived.Test.YtnadiddaeolanaaArena3
namespace Go.Proofs.Ytnadiddaeolanaa
open Go.RowKit
theorem mem_write (x : Value) (w : World) : (method (Try.prog.types.size + Made.depth) 25 x "Write").run Try.prog w = .ok (28, x) w := by kernel_rfl
theorem mem_nil_write (b : Nat) (w : World) : (nilAhead 300 25 (.pointer (some ⟨b, 0, none⟩)) "Write").run Try.prog w = .ok (some false) w := by kernel_rfl
end Go.Proofs.Ytnadiddaeolanaa
