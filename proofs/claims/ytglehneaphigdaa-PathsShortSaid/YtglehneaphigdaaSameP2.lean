/- SameParties, over same. -/
import Derived.Test.YtglehneaphigdaaSameP
namespace Go.Proofs.Ytglehneaphigdaa
open Go.RowKit
set_option linter.unusedSimpArgs false
set_option linter.unusedVariables false
section
variable {W w : World} {l : List Thing}
set_option maxRecDepth 100000
set_option maxHeartbeats 2000000
theorem sameParties_P {A B : List Nat} (a b : Option Addr) (n c d : Nat) (hA : A.length = n) (hB : B.length = n) (hn : n ≤ 1000000) (hA8 : ∀ x ∈ A, x ≤ 255) (hB8 : ∀ x ∈ B, x ≤ 255) (RA : ∀ w', Heap W l w' → Rd w' a (A.map pv)) (RB : ∀ w', Heap W l w' → Rd w' b (B.map pv)) :
    AnsH W l 37 #[.slice a n c, .slice b n d] (.bool (decide (A = B))) := by
  intro w H
  have S := same_P (W := W) (l := l) a b n c d hA hB hn hA8 hB8 RA RB
  clear RA RB
  generalize decide (A = B) = res at *
  go_enter Try.func37, Try.ntmps37
  go_wp2_with (first | go_skip | ((with_reducible refine AnsH.call (by assumption) H ?_); clear H; intro _ H))
  go_ret
  exact ⟨rfl, H⟩
end
end Go.Proofs.Ytglehneaphigdaa
