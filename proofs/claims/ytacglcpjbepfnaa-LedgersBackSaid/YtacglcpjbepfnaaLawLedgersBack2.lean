/- LedgersBack: its walks joined. -/
import Derived.Test.YtacglcpjbepfnaaLawLedgersBack
namespace Go.Proofs.Ytacglcpjbepfnaa
open Go.RowKit
theorem ledgersBack_law (v0 v1 : Value) (w : World) (o0 : ActsV w v0) (o1 : ActArg w v1) : Calls Try.prog 4 #[v0, v1] w fun e w' => e = .returned (.bool true) ∧ Below w.heap.size w w' := by
  obtain ⟨a, n, c, F, rfl, o0⟩ := o0
  obtain ⟨⟨k, xa, xb, xc, xn⟩, rfl, ho⟩ := o1
  by_cases hn : n ≤ 120
  · by_cases hp : pushE (madeS F) xa xb xc xn = 0
    · exact ledgersBack_yes w a n c F k xa xb xc xn o0.len hn o0.ok o0.rd ho hp
    · exact ledgersBack_no w a n c F k xa xb xc xn o0.len hn o0.ok o0.rd ho hp
  · exact ledgersBack_great w a n c k xa xb xc xn (by omega) (Nat.le_trans o0.cap o0.max)
end Go.Proofs.Ytacglcpjbepfnaa
