/- RoundsQuota: its argument. -/
import Derived.Test.YtbmmdfjabkpoeaaLawRoundsQuota
import Derived.Test.YtbmmdfjabkpoeaaRndGPart9
namespace Go.Proofs.Ytbmmdfjabkpoeaa
open Go.RowKit
set_option maxRecDepth 100000
theorem roundsQuota_law (v : Value) (W : World) (o : FlowsV W v) :
    Calls Try.prog 5 #[v] W fun e w' => e = .returned (.bool true) ∧ Below W.heap.size W w' := by
  obtain ⟨a, n, c, F, rfl, hF⟩ := o
  have hn := hF.cap
  have hm := hF.max
  unfold maxLen at hm
  exact (rquota_H a n c F hF.len (by omega) hF.ok (fun _ w' H => H.rd hF.rd) (Heap.start W)).mono fun e w' ⟨he, hh⟩ => ⟨he, hh.low⟩
end Go.Proofs.Ytbmmdfjabkpoeaa
