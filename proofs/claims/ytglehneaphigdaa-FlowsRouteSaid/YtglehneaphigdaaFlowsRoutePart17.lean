/- FlowsRoute: part 17 of its proof: Open07, LawFlowsRoute2. -/
import Derived.Test.YtglehneaphigdaaFlowsRoutePart16
/- An Ask as an argument. -/
namespace Go.Proofs.Ytglehneaphigdaa
open Go.ChangeShapes Go.WideShapes Go.ChangeAt Go.RowKit
set_option linter.unusedVariables false
set_option maxRecDepth 100000
theorem flat_ask : flat Try.prog 9 49 = some [33, 33, 2] := by kernel_rfl
def AskV (w : World) (v : Value) : Prop := ∃ (f t : Nat) (k : Int), v = .agg (flow (f : Int) (t : Int) k) ∧ f ≤ 255 ∧ t ≤ 255 ∧ -9223372036854775808 ≤ k ∧ k ≤ 9223372036854775807
theorem open_ask {H : Type} {enc : TypeId × Value → H} {W : World} {held : Bool} {v : Value} {d : DataW H} {p : List MemPlace} {r : Reach} {b0 : Nat}
    (hval : Value.okWide Try.prog W r b0 49 v) (h : DataW.Trod enc Try.prog W 0 (fun _ => true) held 49 v d p) : AskV W v := by
  obtain ⟨cs, rfl, hn, hp⟩ := open_flat (.inl ⟨_, Try.underlying49⟩) flat_ask hval h
  obtain ⟨x0, h0, k0⟩ := hp 0 _ rfl
  obtain ⟨x1, h1, k1⟩ := hp 1 _ rfl
  obtain ⟨x2, h2, k2⟩ := hp 2 _ rfl
  obtain ⟨a, rfl, ha⟩ := leaf_party k0
  obtain ⟨b, rfl, hb⟩ := leaf_party k1
  obtain ⟨n, rfl, hn0, hn1⟩ := leaf_i64 k2
  obtain ⟨l⟩ := cs
  refine ⟨a, b, n, ?_, ha, hb, hn0, hn1⟩
  match l, hn with
  | [c0, c1, c2], _ => simp at h0 h1 h2; subst_vars; rfl
end Go.Proofs.Ytglehneaphigdaa

/- FlowsRoute: its arguments. -/
namespace Go.Proofs.Ytglehneaphigdaa
open Go.RowKit
set_option maxRecDepth 100000
theorem flowsRoute_law (v z : Value) (W : World) (o : FlowsV W v) (q : AskV W z) :
    Calls Try.prog 6 #[v, z] W fun e w' => e = .returned (.bool true) ∧ Below W.heap.size W w' := by
  obtain ⟨a, n, c, F, rfl, hF⟩ := o
  obtain ⟨f, t, k, rfl, hf, ht, hk0, hk⟩ := q
  have hn := hF.cap
  have hm := hF.max
  unfold maxLen at hm
  have H := Heap.start W
  have R : ∀ l' w', (∀ x ∈ ([] : List Thing), x ∈ l') → Heap W l' w' → Rd w' a (flwL F) := fun _ w' _ H => H.rd hF.rd
  by_cases h300 : 300 < n
  · exact (froute_many a n c f t k h300 (by omega) H).mono fun e w' ⟨he, hh⟩ => ⟨he, hh.low⟩
  · cases hG : newG F with
    | none => exact (froute_none a n c f t k F (by omega) hF.len hF.ok hf ht hk R hG H).mono fun e w' ⟨he, hh⟩ => ⟨he, hh.low⟩
    | some cc => exact (froute_some a n c f t k F cc (by omega) hF.len hF.ok hf ht hk0 hk R hG H).mono fun e w' ⟨he, hh⟩ => ⟨he, hh.low⟩
end Go.Proofs.Ytglehneaphigdaa
