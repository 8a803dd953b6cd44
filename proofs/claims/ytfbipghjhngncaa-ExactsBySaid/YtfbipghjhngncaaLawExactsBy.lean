/- ExactsBy: what comes of three numbers, floored and raised, is the reference's. -/
import Derived.Test.YtfbipghjhngncaaRef01g
import Derived.Test.YtfbipghjhngncaaLawExactsTwo
namespace Go.Proofs.Ytfbipghjhngncaa
open Go.RowKit
set_option linter.unusedSimpArgs false
set_option linter.unusedVariables false
set_option maxRecDepth 100000 in
set_option maxHeartbeats 1000000 in
theorem exactsBy_law (a n d : Int) (w : World) (a0 : -9223372036854775808 ≤ a) (a1 : a ≤ 9223372036854775807) (b0 : -9223372036854775808 ≤ n) (b1 : n ≤ 9223372036854775807) (c0 : -9223372036854775808 ≤ d) (c1 : d ≤ 9223372036854775807) :
    Calls Try.prog 5 #[.int .i64 a, .int .i64 n, .int .i64 d] w fun e w' => e = .returned (.bool true) ∧ Below w.heap.size w w' := by
  have h1 := down_ans a n d ⟨a0, a1⟩ ⟨b0, b1⟩ ⟨c0, c1⟩
  have h2 := rdown_ans a n d ⟨a0, a1⟩ ⟨b0, b1⟩ ⟨c0, c1⟩
  have h3 := up_ans a n d ⟨a0, a1⟩ ⟨b0, b1⟩ ⟨c0, c1⟩
  have h4 := rup_ans a n d ⟨a0, a1⟩ ⟨b0, b1⟩ ⟨c0, c1⟩
  have h7 := alike_ans (downN a n d) (downE a n d)
  have h8 := alike_ans (upN a n d) (upE a n d)
  have hL := lives01_ans
  clear a0 a1 b0 b1 c0 c1
  generalize downN a n d = n1 at *
  generalize downE a n d = m1 at *
  generalize upN a n d = n2 at *
  generalize upE a n d = m2 at *
  go_enter Try.func5, Try.ntmps5
  go_wp2_with ((with_reducible refine Ans.call (by assumption) ?_); intro _)
  go_ret
  exact ⟨rfl, (by repeat (first | exact Ext.refl _ | refine Ext.alloc ?_ _ | refine Ext.ext ?_ _ | refine Ext.drew ?_))⟩
end Go.Proofs.Ytfbipghjhngncaa
