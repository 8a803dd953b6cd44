/- BooksBest: its arguments. -/
import Derived.Test.YtacglcpjbepfnaaLawBooksBest
namespace Go.Proofs.Ytacglcpjbepfnaa
open Go.ChangeShapes Go.WideShapes Go.ChangeAt Go.RowKit
set_option linter.unusedVariables false
set_option maxRecDepth 100000
def CurI (w : World) (v : Value) : Prop := ∃ n : Int, v = .int .u8 n ∧ 0 ≤ n ∧ n ≤ 255
theorem open_curI {H : Type} {enc : TypeId × Value → H} {W : World} {held : Bool} {v : Value} {d : DataW H} {p : List MemPlace} {r : Reach} {b0 : Nat}
    (hval : Value.okWide Try.prog W r b0 24 v) (h : DataW.Trod enc Try.prog W 0 (fun _ => true) held 24 v d p) : CurI W v := by
  obtain ⟨z, rfl, hw⟩ := open_int Try.underlying24 hval h
  exact ⟨z, rfl, bounds_u8 hw.2.2⟩
theorem booksBest_law (v0 v1 v2 : Value) (w : World) (o0 : OActsV w v0) (o1 : CurI w v1) (o2 : CurI w v2) : Calls Try.prog 9 #[v0, v1, v2] w fun e w' => e = .returned (.bool true) ∧ Below w.heap.size w w' := by
  obtain ⟨se, rfl, _⟩ := o1
  obtain ⟨bu, rfl, _⟩ := o2
  exact booksBest_lawI v0 se bu w o0
end Go.Proofs.Ytacglcpjbepfnaa
