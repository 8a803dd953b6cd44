/- LedgersVoid: its argument. -/
import Derived.Test.YtacglcpjbepfnaaLawLedgersVoid
namespace Go.Proofs.Ytacglcpjbepfnaa
open Go.RowKit
theorem ledgersVoid_law (v : Value) (w : World) (o : ActArg w v) : Calls Try.prog 7 #[v] w fun e w' => e = .returned (.bool true) ∧ Below w.heap.size w w' := by
  obtain ⟨⟨k, a, b, c, n⟩, rfl, _⟩ := o
  exact ledgersVoid_walk k a b c n w
end Go.Proofs.Ytacglcpjbepfnaa
