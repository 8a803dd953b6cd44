/- A rate as an argument: its two terms. -/
import Derived.Test.YtfbipghjhngncaaRats3
import Derived.Test.YtfbipghjhngncaaOpen
import Derived.Lib.SmallJoins
namespace Go.Proofs.Ytfbipghjhngncaa
open Go.ChangeShapes Go.WideShapes Go.ChangeAt Go.RowKit

theorem open_rat {H : Type} {enc : TypeId × Value → H} {W : World} {held : Bool} {v : Value} {d : DataW H} {p : List MemPlace} {r : Reach} {base b0 : Nat} {sp : Nat → Bool}
    (hval : Value.okWide Try.prog W r b0 42 v) (h : DataW.Trod enc Try.prog W base sp held 42 v d p) : ∃ x y, v = ratV x y ∧ In64p x y := by
  obtain ⟨c0, c1, y0, y1, m, rfl, rfl, rfl, hy0, hy1⟩ := Joins.open_agg2 Try.underlying42 (by kernel_rfl) (by kernel_rfl) hval h
  obtain ⟨a, e0, rfl, wa⟩ := DataW.trod_int Try.underlying2 hy0
  obtain ⟨b, e1, rfl, wb⟩ := DataW.trod_int Try.underlying2 hy1
  simp at e0 e1
  subst e0 e1
  exact ⟨a, b, rfl, (bounds_i64 wa).1, (bounds_i64 wa).2, (bounds_i64 wb).1, (bounds_i64 wb).2⟩
end Go.Proofs.Ytfbipghjhngncaa
