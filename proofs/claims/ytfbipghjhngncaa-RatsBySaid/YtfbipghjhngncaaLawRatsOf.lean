/- RatsOf: of whatever terms the rate, whether it may be, and its inverse, are the reference's. -/
import Derived.Test.YtfbipghjhngncaaRef02c
import Derived.Test.YtfbipghjhngncaaLives02
namespace Go.Proofs.Ytfbipghjhngncaa
open Go.RowKit
set_option linter.unusedSimpArgs false
set_option linter.unusedVariables false

theorem rof_form (x y : Int) : ∃ p q e : Int, rof x y = .tuple #[.agg #[.int .i64 p, .int .i64 q], .int .i64 e] := by
  unfold rof
  by_cases h : PosT x y
  · rw [if_pos h, if_pos h]
    cases bigT (lowN x y) (lowD x y)
    · exact ⟨_, _, _, rfl⟩
    · exact ⟨_, _, _, rfl⟩
  · rw [if_neg h, if_neg h]; exact ⟨_, _, _, rfl⟩
theorem inv_form (x y : Int) : ∃ p q : Int, invV x y = .agg #[.int .i64 p, .int .i64 q] := by
  unfold invV; cases mayB x y
  · exact ⟨_, _, rfl⟩
  · exact ⟨_, _, rfl⟩
theorem live02_ans : Ans 38 #[] (.bool true) := fun w => lives02_any w
attribute [local go_sem high] ratEq_run ratSame_self
set_option maxRecDepth 100000 in
set_option maxHeartbeats 2000000 in
theorem ratsOf_law (x y : Int) (w : World) (a0 : -9223372036854775808 ≤ x) (a1 : x ≤ 9223372036854775807) (b0 : -9223372036854775808 ≤ y) (b1 : y ≤ 9223372036854775807) :
    Calls Try.prog 8 #[.int .i64 x, .int .i64 y] w fun e w' => e = .returned (.bool true) ∧ Below w.heap.size w w' := by
  have h : In64p x y := ⟨a0, a1, b0, b1⟩
  have h1 : Ans 32 #[.int .i64 x, .int .i64 y] (rof x y) := fun w => rof_any x y w a0 a1 b0 b1
  have h2 := refof_ans x y h
  have h3 : Ans 34 #[.agg #[.int .i64 x, .int .i64 y]] (.bool (mayB x y)) := fun w => may_any x y w a0 a1 b0 b1
  have h4 := rmay_ans x y h
  have h5 : Ans 36 #[.agg #[.int .i64 x, .int .i64 y]] (invV x y) := fun w => inverse_any x y w h
  have h6 := rinverse_ans x y h
  have hL := live02_ans
  obtain ⟨p, q, e, he⟩ := rof_form x y
  obtain ⟨r, s, hi⟩ := inv_form x y
  rw [he] at h1 h2
  rw [hi] at h5 h6
  clear h a0 a1 b0 b1 he hi
  generalize mayB x y = m at *
  cases m
  all_goals
    go_enter Try.func8, Try.ntmps8
    go_wp2_with ((with_reducible refine Ans.call (by assumption) ?_); intro _)
    refine wp_region_ext (by kernel_rfl) (by kernel_rfl) ?_
    repeat (go_big_quiet_step (((with_reducible exact Ans.quiet (by assumption)))))
    refine wpQuiet_nil ?_
    rintro _ ⟨_, rfl⟩
    go_wp2_with ((with_reducible refine Ans.call (by assumption) ?_); intro _)
    go_ret
    exact ⟨rfl, (by repeat (first | exact Ext.refl _ | refine Ext.alloc ?_ _ | refine Ext.ext ?_ _ | refine Ext.drew ?_))⟩
end Go.Proofs.Ytfbipghjhngncaa
