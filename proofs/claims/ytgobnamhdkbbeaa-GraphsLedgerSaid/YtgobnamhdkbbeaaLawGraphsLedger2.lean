/- GraphsLedger: its walks joined. -/
import Derived.Test.YtgobnamhdkbbeaaLawGraphsLedger
import Derived.Test.YtgobnamhdkbbeaaOpen05
import Derived.Test.YtgobnamhdkbbeaaOpen
namespace Go.Proofs.Ytgobnamhdkbbeaa
open Go.ChangeShapes Go.WideShapes Go.ChangeAt Go.RowKit
set_option linter.unusedVariables false
set_option maxRecDepth 100000
def CurArg (w : World) (v : Value) : Prop := ∃ c : Nat, v = .int .u8 (c : Int) ∧ c ≤ 255
theorem open_cur {H : Type} {enc : TypeId × Value → H} {W : World} {held : Bool} {v : Value} {d : DataW H} {p : List MemPlace} {r : Reach} {b0 : Nat}
    (hval : Value.okWide Try.prog W r b0 23 v) (h : DataW.Trod enc Try.prog W 0 (fun _ => true) held 23 v d p) : CurArg W v := by
  obtain ⟨z, rfl, hw⟩ := open_int Try.underlying23 hval h
  have := bounds_u8 hw.2.2
  exact ⟨z.toNat, by rw [Int.toNat_of_nonneg this.1], by omega⟩
theorem graphsLedger_law (v0 v1 v2 : Value) (w : World) (o0 : ActsV w v0) (o1 : CurArg w v1) (o2 : ∃ a n c F, v2 = .slice a n c ∧ FlowsArg w a n c F) : Calls Try.prog 3 #[v0, v1, v2] w fun e w' => e = .returned (.bool true) ∧ Below w.heap.size w w' := by
  obtain ⟨ea, an, ac, F, rfl, o0⟩ := o0
  obtain ⟨cu, rfl, hc⟩ := o1
  obtain ⟨fa, fn, fc, X, rfl, o2⟩ := o2
  by_cases hn : 120 < an ∨ 40 < fn
  · exact graphsLedger_great w ea fa an ac fn fc cu hn (Nat.le_trans o0.cap o0.max) (Nat.le_trans o2.cap o2.max)
  · by_cases he : cu = 255
    · subst he
      exact graphsLedger_main w ea fa an ac fn fc 255 0 F X o0.len (by omega) o0.ok o0.rd hc o2.len (by omega) o2.ok o2.rd (by omega) (by omega) (by decide)
    · exact graphsLedger_main w ea fa an ac fn fc cu (cu + 1) F X o0.len (by omega) o0.ok o0.rd hc o2.len (by omega) o2.ok o2.rd (by omega) (by omega) (by rw [IntWalk.u8_in _ (by omega)]; rfl)
end Go.Proofs.Ytgobnamhdkbbeaa
