/- GraphsPair: its walks joined; a flow as an argument. -/
import Derived.Test.YtgobnamhdkbbeaaLawGraphsPair
namespace Go.Proofs.Ytgobnamhdkbbeaa
open Go.ChangeShapes Go.WideShapes Go.ChangeAt Go.RowKit
set_option linter.unusedVariables false
set_option maxRecDepth 100000
theorem flat_flow1 : flat Try.prog 9 32 = some [30, 30, 2] := by kernel_rfl
def FlowArg (w : World) (v : Value) : Prop := ∃ (a b : Nat) (n : Int), v = .agg (flow a b n) ∧ a ≤ 255 ∧ b ≤ 255 ∧ -9223372036854775808 ≤ n ∧ n ≤ 9223372036854775807
def CurArg (w : World) (v : Value) : Prop := ∃ c : Nat, v = .int .u8 (c : Int) ∧ c ≤ 255
theorem open_flow1 {H : Type} {enc : TypeId × Value → H} {W : World} {held : Bool} {v : Value} {d : DataW H} {p : List MemPlace} {r : Reach} {b0 : Nat}
    (hval : Value.okWide Try.prog W r b0 32 v) (h : DataW.Trod enc Try.prog W 0 (fun _ => true) held 32 v d p) : FlowArg W v := by
  obtain ⟨cs, rfl, hn, hp⟩ := open_flat (.inl ⟨_, Try.underlying32⟩) flat_flow1 hval h
  obtain ⟨x0, h0, k0⟩ := hp 0 _ rfl
  obtain ⟨x1, h1, k1⟩ := hp 1 _ rfl
  obtain ⟨x2, h2, k2⟩ := hp 2 _ rfl
  obtain ⟨w0, rfl, q0⟩ := leaf_party k0
  obtain ⟨w1, rfl, q1⟩ := leaf_party k1
  obtain ⟨w2, rfl, q2⟩ := leaf_i64 k2
  obtain ⟨l⟩ := cs
  refine ⟨w0, w1, w2, ?_, q0, q1, q2⟩
  match l, hn with
  | [c0, c1, c2], _ => simp at h0 h1 h2; subst_vars; rfl
theorem open_cur {H : Type} {enc : TypeId × Value → H} {W : World} {held : Bool} {v : Value} {d : DataW H} {p : List MemPlace} {r : Reach} {b0 : Nat}
    (hval : Value.okWide Try.prog W r b0 23 v) (h : DataW.Trod enc Try.prog W 0 (fun _ => true) held 23 v d p) : CurArg W v := by
  obtain ⟨z, rfl, hw⟩ := open_int Try.underlying23 hval h
  have := bounds_u8 hw.2.2
  exact ⟨z.toNat, by rw [Int.toNat_of_nonneg this.1], by omega⟩
theorem graphsPair_law (v0 v1 v2 : Value) (w : World) (o0 : ActsV w v0) (o1 : CurArg w v1) (o2 : FlowArg w v2) : Calls Try.prog 4 #[v0, v1, v2] w fun e w' => e = .returned (.bool true) ∧ Below w.heap.size w w' := by
  obtain ⟨ea, an, ac, F, rfl, o0⟩ := o0
  obtain ⟨cu, rfl, hc⟩ := o1
  obtain ⟨a, b, n, rfl, ha, hb, hr⟩ := o2
  by_cases hn : an ≤ 120
  · by_cases h1 : n < 1
    · exact graphsPair_arg w ea an ac cu F a b n o0.len hn o0.ok o0.rd hc ha hb hr h1
    · by_cases hp : capsS (madeS F) cu a b < n
      · exact graphsPair_route w ea an ac cu F a b n o0.len hn o0.ok o0.rd hc ha hb hr h1 hp
      · exact graphsPair_yes w ea an ac cu F a b n o0.len hn o0.ok o0.rd hc ha hb hr (by omega) (by omega)
  · exact graphsPair_great w ea an ac cu a b n (by omega) (Nat.le_trans o0.cap o0.max)
end Go.Proofs.Ytgobnamhdkbbeaa
