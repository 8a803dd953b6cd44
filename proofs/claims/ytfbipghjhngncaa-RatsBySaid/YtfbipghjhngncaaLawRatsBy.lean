/- RatsBy: what comes of a number by a rate, floored and raised, and how much fits, is the reference's. -/
import Derived.Test.YtfbipghjhngncaaRef02d
import Derived.Test.YtfbipghjhngncaaLawRatsOf
namespace Go.Proofs.Ytfbipghjhngncaa
open Go.RowKit
set_option linter.unusedSimpArgs false
set_option linter.unusedVariables false
set_option maxRecDepth 100000 in
set_option maxHeartbeats 2000000 in
theorem ratsBy_law (a n d : Int) (w : World) (a0 : -9223372036854775808 ≤ a) (a1 : a ≤ 9223372036854775807) (h : In64p n d) :
    Calls Try.prog 10 #[.int .i64 a, ratV n d] w fun e w' => e = .returned (.bool true) ∧ Below w.heap.size w w' := by
  have h1 : Ans 41 #[.int .i64 a, .agg #[.int .i64 n, .int .i64 d]] _ := fun w => rdown_any a n d w a0 a1 h
  have h2 := ref2down_ans a n d ⟨a0, a1⟩ h
  have h3 : Ans 43 #[.int .i64 a, .agg #[.int .i64 n, .int .i64 d]] _ := fun w => rup_any a n d w a0 a1 h
  have h4 := ref2up_ans a n d ⟨a0, a1⟩ h
  have h5 : Ans 45 #[.int .i64 a, .agg #[.int .i64 n, .int .i64 d]] _ := fun w => rfits_any a n d w a0 a1 h
  have h6 := reffits_ans a n d ⟨a0, a1⟩ h
  have hL := live02_ans
  obtain ⟨p, e, hd⟩ : ∃ p e : Int, (if mayB n d then pairV (downN a n d) (downE a n d) else pairV 0 1) = .tuple #[.int .i64 p, .int .i64 e] := by
    cases mayB n d <;> exact ⟨_, _, rfl⟩
  obtain ⟨q, f, hu⟩ : ∃ p e : Int, (if mayB n d then pairV (upN a n d) (upE a n d) else pairV 0 1) = .tuple #[.int .i64 p, .int .i64 e] := by
    cases mayB n d <;> exact ⟨_, _, rfl⟩
  rw [hd] at h1 h2
  rw [hu] at h3 h4
  clear h a0 a1 hd hu
  generalize fitsN a n d = g at *
  unfold ratV
  go_enter Try.func10, Try.ntmps10
  go_wp2_with ((with_reducible refine Ans.call (by assumption) ?_); intro _)
  refine wp_region_ext (by kernel_rfl) (by kernel_rfl) ?_
  repeat (go_big_quiet_step (((with_reducible exact Ans.quiet (by assumption)))))
  refine wpQuiet_nil ?_
  rintro _ ⟨_, rfl⟩
  go_wp2_with ((with_reducible refine Ans.call (by assumption) ?_); intro _)
  go_ret
  exact ⟨rfl, (by repeat (first | exact Ext.refl _ | refine Ext.alloc ?_ _ | refine Ext.ext ?_ _ | refine Ext.drew ?_))⟩
end Go.Proofs.Ytfbipghjhngncaa
