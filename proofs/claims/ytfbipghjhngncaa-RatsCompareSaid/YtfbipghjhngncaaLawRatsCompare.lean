/- RatsCompare: the program's comparing of two rates is the reference's. -/
import Derived.Test.YtfbipghjhngncaaRef02e
import Derived.Test.YtfbipghjhngncaaLawRatsOrder
namespace Go.Proofs.Ytfbipghjhngncaa
open Go.RowKit
set_option linter.unusedSimpArgs false
set_option linter.unusedVariables false
set_option maxRecDepth 100000 in
set_option maxHeartbeats 1000000 in
theorem ratsCompare_law (an ad bn bd : Int) (w : World) (ha : In64p an ad) (hb : In64p bn bd) :
    Calls Try.prog 9 #[ratV an ad, ratV bn bd] w fun e w' => e = .returned (.bool true) ∧ Below w.heap.size w w' := by
  have hL := lives02_ans
  have h1 := compare_ans ha hb
  have h2 := rcmp_ans ha hb
  clear ha hb
  generalize cmpR an ad bn bd = n at *
  unfold ratV
  go_enter Try.func9, Try.ntmps9
  go_wp2_with fail
  refine wp_region_ext (by kernel_rfl) (by kernel_rfl) ?_
  repeat (go_big_quiet_step (((with_reducible exact Ans.quiet (by assumption)))))
  refine wpQuiet_nil ?_
  rintro _ ⟨_, rfl⟩
  go_wp2_with fail
  go_ret
  exact ⟨rfl, (by repeat (first | exact Ext.refl _ | refine Ext.alloc ?_ _ | refine Ext.ext ?_ _ | refine Ext.drew ?_))⟩
end Go.Proofs.Ytfbipghjhngncaa
