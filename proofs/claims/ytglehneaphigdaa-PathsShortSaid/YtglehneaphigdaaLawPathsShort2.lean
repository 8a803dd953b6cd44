/- PathsShort: its arguments. -/
import Derived.Test.YtglehneaphigdaaLawPathsShort
namespace Go.Proofs.Ytglehneaphigdaa
open Go.RowKit
set_option maxRecDepth 100000
theorem pathsShort_law (v : Value) (x1 x2 : Int) (W : World) (o : FlowsV W v) (a1 : 0 ≤ x1) (a2 : x1 ≤ 255) (b1 : 0 ≤ x2) (b2 : x2 ≤ 255) :
    Calls Try.prog 10 #[v, .int .u8 x1, .int .u8 x2] W fun e w' => e = .returned (.bool true) ∧ Below W.heap.size W w' := by
  obtain ⟨a, n, c, F, rfl, hF⟩ := o
  obtain ⟨f, rfl⟩ : ∃ f : Nat, x1 = f := ⟨x1.toNat, by omega⟩
  obtain ⟨t, rfl⟩ : ∃ t : Nat, x2 = t := ⟨x2.toNat, by omega⟩
  have hn := hF.cap
  have hm := hF.max
  unfold maxLen at hm
  have H := Heap.start W
  have R : ∀ l' w', (∀ x ∈ ([] : List Thing), x ∈ l') → Heap W l' w' → Rd w' a (flwL F) := fun _ w' _ H => H.rd hF.rd
  by_cases h300 : 300 < n
  · exact (pshort_many a n c f t h300 (by omega) H).mono fun e w' ⟨he, hh⟩ => ⟨he, hh.low⟩
  · cases hG : newG F with
    | none => exact (pshort_none a n c f t F (by omega) hF.len hF.ok (by omega) (by omega) R hG H).mono fun e w' ⟨he, hh⟩ => ⟨he, hh.low⟩
    | some cc => exact (pshort_some a n c f t F cc (by omega) hF.len hF.ok (by omega) (by omega) R hG H).mono fun e w' ⟨he, hh⟩ => ⟨he, hh.low⟩
end Go.Proofs.Ytglehneaphigdaa
