/- GraphsVoid: its argument. -/
import Derived.Test.YtglehneaphigdaaLawGraphsVoid
import Derived.Test.YtglehneaphigdaaOpen05
namespace Go.Proofs.Ytglehneaphigdaa
open Go.RowKit
theorem graphsVoid_law (v : Value) (w : World) (o : FlowArg w v) : Calls Try.prog 11 #[v] w fun e w' => e = .returned (.bool true) ∧ Below w.heap.size w w' := by
  obtain ⟨⟨a, b, n⟩, rfl, ha, hb, h0, h1⟩ := o
  exact graphsVoid_walk a b n w ha hb h0 h1
end Go.Proofs.Ytglehneaphigdaa
