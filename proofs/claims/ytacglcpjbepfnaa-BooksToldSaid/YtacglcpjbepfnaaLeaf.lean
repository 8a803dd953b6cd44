/- Leaves of arguments: parties, numbers. -/
import Derived.Test.YtacglcpjbepfnaaShape
namespace Go.Proofs.Ytacglcpjbepfnaa
open Go.ChangeShapes Go.WideShapes Go.ChangeAt Go.RowKit
theorem leaf_party {w : World} {v : Value} (h : ∀ d, LeafOk Try.prog w d 23 v) : ∃ n : Nat, v = .int .u8 n ∧ n ≤ 255 := by
  obtain ⟨n, rfl, hw⟩ := leaf_int Try.underlying23 h
  have := bounds_u8 hw
  exact ⟨n.toNat, by rw [Int.toNat_of_nonneg this.1], by omega⟩
theorem leaf_i64 {w : World} {v : Value} (h : ∀ d, LeafOk Try.prog w d 2 v) : ∃ n : Int, v = .int .i64 n ∧ -9223372036854775808 ≤ n ∧ n ≤ 9223372036854775807 := by
  obtain ⟨n, rfl, hw⟩ := leaf_int Try.underlying2 h
  exact ⟨n, rfl, (bounds_i64 hw).1, (bounds_i64 hw).2⟩
end Go.Proofs.Ytacglcpjbepfnaa
