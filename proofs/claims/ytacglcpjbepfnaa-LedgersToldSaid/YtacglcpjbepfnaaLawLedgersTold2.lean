/- LedgersTold: a number as an argument. -/
import Derived.Test.YtacglcpjbepfnaaLawLedgersTold
import Derived.Test.YtacglcpjbepfnaaOpen
namespace Go.Proofs.Ytacglcpjbepfnaa
open Go.ChangeShapes Go.WideShapes Go.ChangeAt Go.RowKit
set_option maxRecDepth 100000
set_option linter.constructorNameAsVariable false
theorem open_seed {H : Type} {enc : TypeId × Value → H} {W : World} {held : Bool} {v : Value} {d : DataW H} {p : List MemPlace} {r : Reach} {b0 : Nat}
    (hval : Value.okWide Try.prog W r b0 5 v) (h : DataW.Trod enc Try.prog W 0 (fun _ => true) held 5 v d p) : ∃ s : Nat, v = .int .u8 (s : Int) ∧ s ≤ 255 := by
  obtain ⟨z, rfl, hw⟩ := open_int Try.underlying5 hval h
  have := bounds_u8 hw.2.2
  exact ⟨z.toNat, by rw [Int.toNat_of_nonneg this.1], by omega⟩
end Go.Proofs.Ytacglcpjbepfnaa
