/- PathsRound: its argument. -/
import Derived.Test.YtglehneaphigdaaLawPathsRound
namespace Go.Proofs.Ytglehneaphigdaa
open Go.RowKit
set_option maxRecDepth 100000
theorem pathsRound_law (v : Value) (W : World) (o : EdgesV W v) :
    Calls Try.prog 7 #[v] W fun e w' => e = .returned (.bool true) ∧ Below W.heap.size W w' := by
  obtain ⟨a, n, c, F, rfl, hF⟩ := o
  have hn := hF.cap
  have hm := hF.max
  unfold maxLen at hm
  by_cases h300 : 300 < n
  · exact (pround_many a n c h300 (by omega) (Heap.start W)).mono fun e w' ⟨he, hh⟩ => ⟨he, hh.low⟩
  · exact (pround_few a n c F (by omega) hF.len hF.ok (fun _ w' _ H => H.rd hF.rd) (Heap.start W)).mono fun e w' ⟨he, hh⟩ => ⟨he, hh.low⟩
end Go.Proofs.Ytglehneaphigdaa
