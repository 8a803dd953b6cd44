/- ExactsTwo: the program's sum, difference and product of two numbers are the reference's. -/
import Derived.Test.YtfbipghjhngncaaRef01e
import Derived.Test.YtfbipghjhngncaaLives01
namespace Go.Proofs.Ytfbipghjhngncaa
open Go.RowKit
set_option linter.unusedSimpArgs false
set_option linter.unusedVariables false

theorem alike_ans (a e : Int) : Ans 16 #[.int .i64 a, .int .i64 e, .int .i64 a, .int .i64 e] (.bool true) := by
  intro w
  go_enter Try.func16, Try.ntmps16
  go_wp2_with fail
  go_ret
  exact ⟨rfl, (by repeat (first | exact Ext.refl _ | refine Ext.alloc ?_ _ | refine Ext.ext ?_ _ | refine Ext.drew ?_))⟩
theorem lives01_ans : Ans 21 #[] (.bool true) := fun w => lives01_any w
theorem add_ans (a b : Int) (ha : I64 a) (hb : I64 b) : Ans 14 #[.int .i64 a, .int .i64 b] (.tuple #[.int .i64 (num64 (a + b)), .int .i64 (err64 (a + b))]) := Ans.same fun w => add_any a b w ha.1 ha.2 hb.1 hb.2
theorem sub_ans (a b : Int) (ha : I64 a) (hb : I64 b) : Ans 17 #[.int .i64 a, .int .i64 b] (.tuple #[.int .i64 (num64 (a - b)), .int .i64 (err64 (a - b))]) := Ans.same fun w => sub_any a b w ha.1 ha.2 hb.1 hb.2
theorem mul_ans (a b : Int) (ha : I64 a) (hb : I64 b) : Ans 19 #[.int .i64 a, .int .i64 b] (.tuple #[.int .i64 (num64 (a * b)), .int .i64 (err64 (a * b))]) := fun w => mul_any a b w ha.1 ha.2 hb.1 hb.2
set_option maxRecDepth 100000 in
set_option maxHeartbeats 1000000 in
theorem exactsTwo_law (a b : Int) (w : World) (a0 : -9223372036854775808 ≤ a) (a1 : a ≤ 9223372036854775807) (b0 : -9223372036854775808 ≤ b) (b1 : b ≤ 9223372036854775807) :
    Calls Try.prog 3 #[.int .i64 a, .int .i64 b] w fun e w' => e = .returned (.bool true) ∧ Below w.heap.size w w' := by
  have h1 := add_ans a b ⟨a0, a1⟩ ⟨b0, b1⟩
  have h2 := radd_ans a b ⟨a0, a1⟩ ⟨b0, b1⟩
  have h3 := sub_ans a b ⟨a0, a1⟩ ⟨b0, b1⟩
  have h4 := rsub_ans a b ⟨a0, a1⟩ ⟨b0, b1⟩
  have h5 := mul_ans a b ⟨a0, a1⟩ ⟨b0, b1⟩
  have h6 := rmul_ans a b ⟨a0, a1⟩ ⟨b0, b1⟩
  have h7 := alike_ans (num64 (a + b)) (err64 (a + b))
  have h8 := alike_ans (num64 (a - b)) (err64 (a - b))
  have h9 := alike_ans (num64 (a * b)) (err64 (a * b))
  have hL := lives01_ans
  clear a0 a1 b0 b1
  generalize num64 (a + b) = n1 at *
  generalize num64 (a - b) = n2 at *
  generalize num64 (a * b) = n3 at *
  generalize err64 (a + b) = m1 at *
  generalize err64 (a - b) = m2 at *
  generalize err64 (a * b) = m3 at *
  go_enter Try.func3, Try.ntmps3
  go_wp2_with ((with_reducible refine Ans.call (by assumption) ?_); intro _)
  go_ret
  exact ⟨rfl, (by repeat (first | exact Ext.refl _ | refine Ext.alloc ?_ _ | refine Ext.ext ?_ _ | refine Ext.drew ?_))⟩
end Go.Proofs.Ytfbipghjhngncaa
