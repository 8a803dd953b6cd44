/- Two rates are the same just where their terms are. -/
import Derived.Test.YtfbipghjhngncaaTwo
import Derived.Laws.StructEq
namespace Go.Proofs.Ytfbipghjhngncaa
open Go.RowKit
def ratSame (n e x y : Int) : Bool := decide (n = x ∧ e = y)
theorem ratSame_iff {n e x y : Int} : ratSame n e x y = true ↔ n = x ∧ e = y := decide_eq_true_iff
theorem ratSame_false {n e x y : Int} (h : ¬ (n = x ∧ e = y)) : ratSame n e x y = false := decide_eq_false h
theorem ratSame_self (n e : Int) : ratSame n e n e = true := decide_eq_true ⟨rfl, rfl⟩
theorem ratEq_run (d : Nat) (n e x y : Int) (w : World) : (Op.equalIn (d + 2) 42 (.agg #[.int .i64 n, .int .i64 e]) (.agg #[.int .i64 x, .int .i64 y])).run Try.prog w = .ok (ratSame n e x y) w := by
  rw [run_equalIn_struct w (d + 1) 42 _ _ (by kernel_rfl) (by kernel_rfl)]
  have hu := Try.underlying2
  by_cases h1 : n = x <;> by_cases h2 : e = y
  all_goals simp [ratSame, go_sem, Try.underlying42, hu, h1, h2]
end Go.Proofs.Ytfbipghjhngncaa
