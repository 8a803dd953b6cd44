/- FlowsCut: part 18 of its proof: LawPathsLeast3, Open07, LawFlowsCut3. -/
import Derived.Test.YtglehneaphigdaaFlowsCutPart17
/- PathsLeast: its arguments. -/
namespace Go.Proofs.Ytglehneaphigdaa
open Go.ChangeShapes Go.WideShapes Go.ChangeAt Go.RowKit

set_option maxRecDepth 100000
def FlowsV (w : World) (v : Value) : Prop := ∃ a n c F, v = .slice a n c ∧ FlowsArg w a n c F
theorem open_flowsV {H : Type} {enc : TypeId × Value → H} {W : World} {held : Bool} {v : Value} {d : DataW H} {p : List MemPlace} {r : Reach} {b0 : Nat}
    (hval : Value.okWide Try.prog W r b0 22 v) (h : DataW.Trod enc Try.prog W 0 (fun _ => true) held 22 v d p) : FlowsV W v := open_flows hval h
theorem mayP_no {a : Nat} (h : mayP a = false) : a < 1 ∨ 16 < a := by
  unfold mayP at h
  by_cases h1 : 1 ≤ a
  · by_cases h2 : a ≤ 16
    · simp [h1, h2] at h
    · omega
  · omega
theorem pathsLeast_law (v : Value) (x1 x2 : Int) (W : World) (o : FlowsV W v) (a1 : 0 ≤ x1) (a2 : x1 ≤ 255) (b1 : 0 ≤ x2) (b2 : x2 ≤ 255) :
    Calls Try.prog 8 #[v, .int .u8 x1, .int .u8 x2] W fun e w' => e = .returned (.bool true) ∧ Below W.heap.size W w' := by
  obtain ⟨a, n, c, F, rfl, hF⟩ := o
  obtain ⟨f, rfl⟩ : ∃ f : Nat, x1 = f := ⟨x1.toNat, by omega⟩
  obtain ⟨t, rfl⟩ : ∃ t : Nat, x2 = t := ⟨x2.toNat, by omega⟩
  have hn := hF.cap
  have hm := hF.max
  unfold maxLen at hm
  have H := Heap.start W
  have R : ∀ w', Heap W [] w' → Rd w' a (flwL F) := fun w' H => H.rd hF.rd
  by_cases h300 : 300 < n
  · exact (least_many a n c f t h300 (by omega) H).mono fun e w' ⟨he, hh⟩ => ⟨he, hh.low⟩
  · cases hG : newG F with
    | none => exact (least_none a n c f t F (by omega) hF.len hF.ok (by omega) (by omega) R hG H).mono fun e w' ⟨he, hh⟩ => ⟨he, hh.low⟩
    | some cc =>
      by_cases hb : mayP f = false ∨ mayP t = false ∨ f = t
      · refine (least_bad a n c f t F cc (by omega) hF.len hF.ok (by omega) (by omega) R hG hb ?_ H).mono fun e w' ⟨he, hh⟩ => ⟨he, hh.low⟩
        by_cases e : f = t
        · exact .inl (by simp [e])
        · have e1 : ((f : Int) == (t : Int)) = false := by simp; omega
          refine .inr ?_
          by_cases f1 : f < 1
          · exact .inl ⟨e1, f1⟩
          · by_cases f2 : 16 < f
            · exact .inr (.inl ⟨e1, by omega, f2⟩)
            · by_cases t1 : t < 1
              · exact .inr (.inr (.inl ⟨e1, by omega, by omega, t1⟩))
              · by_cases t2 : 16 < t
                · exact .inr (.inr (.inr ⟨e1, by omega, by omega, by omega, t2⟩))
                · rcases hb with h | h | h
                  · have := mayP_no h; omega
                  · have := mayP_no h; omega
                  · exact absurd h e
      · have hf : mayP f = true := by
          cases e : mayP f
          · exact absurd (.inl e) hb
          · rfl
        have ht : mayP t = true := by
          cases e : mayP t
          · exact absurd (.inr (.inl e)) hb
          · rfl
        exact (least_yes a n c f t F cc (by omega) hF.len hF.ok (mayP_true hf).1 (mayP_true hf).2 (mayP_true ht).1 (mayP_true ht).2 (fun e => hb (.inr (.inr e))) R hG H).mono fun e w' ⟨he, hh⟩ => ⟨he, hh.low⟩
end Go.Proofs.Ytglehneaphigdaa

/- An Ask as an argument. -/
namespace Go.Proofs.Ytglehneaphigdaa
open Go.ChangeShapes Go.WideShapes Go.ChangeAt Go.RowKit
set_option linter.unusedVariables false
set_option maxRecDepth 100000
theorem flat_ask : flat Try.prog 9 49 = some [33, 33, 2] := by kernel_rfl
def AskV (w : World) (v : Value) : Prop := ∃ (f t : Nat) (k : Int), v = .agg (flow (f : Int) (t : Int) k) ∧ f ≤ 255 ∧ t ≤ 255 ∧ -9223372036854775808 ≤ k ∧ k ≤ 9223372036854775807
theorem open_ask {H : Type} {enc : TypeId × Value → H} {W : World} {held : Bool} {v : Value} {d : DataW H} {p : List MemPlace} {r : Reach} {b0 : Nat}
    (hval : Value.okWide Try.prog W r b0 49 v) (h : DataW.Trod enc Try.prog W 0 (fun _ => true) held 49 v d p) : AskV W v := by
  obtain ⟨cs, rfl, hn, hp⟩ := open_flat (.inl ⟨_, Try.underlying49⟩) flat_ask hval h
  obtain ⟨x0, h0, k0⟩ := hp 0 _ rfl
  obtain ⟨x1, h1, k1⟩ := hp 1 _ rfl
  obtain ⟨x2, h2, k2⟩ := hp 2 _ rfl
  obtain ⟨a, rfl, ha⟩ := leaf_party k0
  obtain ⟨b, rfl, hb⟩ := leaf_party k1
  obtain ⟨n, rfl, hn0, hn1⟩ := leaf_i64 k2
  obtain ⟨l⟩ := cs
  refine ⟨a, b, n, ?_, ha, hb, hn0, hn1⟩
  match l, hn with
  | [c0, c1, c2], _ => simp at h0 h1 h2; subst_vars; rfl
end Go.Proofs.Ytglehneaphigdaa

/- FlowsCut: its arguments. -/
namespace Go.Proofs.Ytglehneaphigdaa
open Go.RowKit
set_option maxRecDepth 100000
theorem flowsCut_law (v z : Value) (x : Int) (W : World) (o : FlowsV W v) (q : AskV W z) (b1 : 0 ≤ x) (b2 : x ≤ 4294967295) :
    Calls Try.prog 5 #[v, z, .int .u32 x] W fun e w' => e = .returned (.bool true) ∧ Below W.heap.size W w' := by
  obtain ⟨a, n, c, F, rfl, hF⟩ := o
  obtain ⟨f, t, k, rfl, hf, ht, hk0, hk⟩ := q
  have hn := hF.cap
  have hm := hF.max
  unfold maxLen at hm
  have H := Heap.start W
  have R : ∀ l' w', (∀ x ∈ ([] : List Thing), x ∈ l') → Heap W l' w' → Rd w' a (flwL F) := fun _ w' _ H => H.rd hF.rd
  by_cases ho : 300 < n ∨ f = t ∨ f < 1 ∨ 16 < f ∨ t < 1 ∨ 16 < t
  · exact (fcut_odd a n c f t k x ho (by omega) hf ht H).mono fun e w' ⟨he, hh⟩ => ⟨he, hh.low⟩
  · obtain ⟨Z, rfl⟩ := exists_I32 x b1 (by omega)
    cases hG : newG F with
    | none => exact (fcut_none a n c f t k _ F (by omega) (by omega) (by omega) (by omega) (by omega) (by omega) hF.len hF.ok R hG H).mono fun e w' ⟨he, hh⟩ => ⟨he, hh.low⟩
    | some cc => exact (fcut_some a n c f t k _ Z rfl F cc (by omega) (by omega) (by omega) (by omega) (by omega) (by omega) hk0 hk hF.len hF.ok R hG H).mono fun e w' ⟨he, hh⟩ => ⟨he, hh.low⟩
end Go.Proofs.Ytglehneaphigdaa
