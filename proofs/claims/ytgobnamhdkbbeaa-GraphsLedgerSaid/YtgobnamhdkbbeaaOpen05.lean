/- Flows as arguments: one, and lists of them. -/
import Derived.Test.YtgobnamhdkbbeaaShape
import Derived.Test.YtgobnamhdkbbeaaLeaf
import Derived.Test.YtgobnamhdkbbeaaGraph3
namespace Go.Proofs.Ytgobnamhdkbbeaa
open Go.ChangeShapes Go.WideShapes Go.ChangeAt Go.RowKit
set_option linter.unusedVariables false
set_option maxRecDepth 100000
theorem flat_flow : flat Try.prog 9 32 = some [30, 30, 2] := by kernel_rfl
def FlowArg (w : World) (v : Value) : Prop := ∃ x : Flw, v = .agg (flow x.f x.t x.n) ∧ FlwOk x
theorem open_flow {H : Type} {enc : TypeId × Value → H} {W : World} {held : Bool} {v : Value} {d : DataW H} {p : List MemPlace} {r : Reach} {b0 : Nat}
    (hval : Value.okWide Try.prog W r b0 32 v) (h : DataW.Trod enc Try.prog W 0 (fun _ => true) held 32 v d p) : FlowArg W v := by
  obtain ⟨cs, rfl, hn, hp⟩ := open_flat (.inl ⟨_, Try.underlying32⟩) flat_flow hval h
  obtain ⟨x0, h0, k0⟩ := hp 0 _ rfl
  obtain ⟨x1, h1, k1⟩ := hp 1 _ rfl
  obtain ⟨x2, h2, k2⟩ := hp 2 _ rfl
  obtain ⟨a, rfl, ha⟩ := leaf_party k0
  obtain ⟨b, rfl, hb⟩ := leaf_party k1
  obtain ⟨n, rfl, hn0, hn1⟩ := leaf_i64 k2
  obtain ⟨l⟩ := cs
  refine ⟨⟨a, b, n⟩, ?_, ha, hb, hn0, hn1⟩
  match l, hn with
  | [c0, c1, c2], _ => simp at h0 h1 h2; subst_vars; rfl
/-- A list of flows that came in. -/
structure FlowsArg (w : World) (a : Option Addr) (n c : Nat) (F : List Flw) : Prop where
  len : F.length = n
  cap : n ≤ c
  max : c ≤ maxLen
  rd : Rd w a (flwL F)
  ok : ∀ x ∈ F, FlwOk x
theorem flow_cellsOf : Try.prog.cellsOf 32 = 3 := by kernel_rfl
theorem flows_of {w : World} : ∀ (n : Nat) (xs : List Value), xs.length = n * 3 → (∀ (i j : Nat) (u : TypeId), i < n → ([30, 30, 2] : List TypeId)[j]? = some u → ∃ v, xs[i * 3 + j]? = some v ∧ ∀ d, LeafOk Try.prog w d u v) → ∃ F : List Flw, F.length = n ∧ xs = flwL F ∧ ∀ x ∈ F, FlwOk x
  | 0, xs, hl, _ => ⟨[], rfl, by simpa [flwL] using hl, by simp⟩
  | n + 1, xs, hl, h => by
    rcases xs with _ | ⟨c0, _ | ⟨c1, _ | ⟨c2, ys⟩⟩⟩
    · simp at hl
    · simp at hl; omega
    · simp at hl; omega
    · obtain ⟨x0, h0, k0⟩ := h 0 0 _ (by omega) rfl
      obtain ⟨x1, h1, k1⟩ := h 0 1 _ (by omega) rfl
      obtain ⟨x2, h2, k2⟩ := h 0 2 _ (by omega) rfl
      simp at h0 h1 h2
      subst h0 h1 h2
      obtain ⟨a, rfl, ha⟩ := leaf_party k0
      obtain ⟨b, rfl, hb⟩ := leaf_party k1
      obtain ⟨m, rfl, hn0, hn1⟩ := leaf_i64 k2
      obtain ⟨F, hF, rfl, hok⟩ := flows_of n ys (by simp at hl; omega) (fun i j u hi hj => by
        obtain ⟨v, hv, hk⟩ := h (i + 1) j u (by omega) hj
        refine ⟨v, ?_, hk⟩
        rw [show (i + 1) * 3 + j = (i * 3 + j) + 3 by omega] at hv
        simpa using hv)
      exact ⟨⟨a, b, m⟩ :: F, by simp [hF], by simp [flwL, flwV], fun x hx => by
        rcases List.mem_cons.1 hx with rfl | hx
        · exact ⟨ha, hb, hn0, hn1⟩
        · exact hok x hx⟩
theorem open_flows {H : Type} {enc : TypeId × Value → H} {W : World} {held : Bool} {v : Value} {d : DataW H} {p : List MemPlace} {r : Reach} {b0 : Nat}
    (hval : Value.okWide Try.prog W r b0 24 v) (h : DataW.Trod enc Try.prog W 0 (fun _ => true) held 24 v d p) : ∃ a n c F, v = .slice a n c ∧ FlowsArg W a n c F := by
  have hk := fun d => open_sl Try.underlying24 hval h d
  obtain ⟨a, n, c, xs, rfl, hn, hc, hl, hr, _, hp⟩ := leaf_slice Try.underlying24 flat_flow hk
  rw [flow_cellsOf] at hl hp
  obtain ⟨F, hF, rfl, hok⟩ := flows_of (w := W) n xs hl hp
  exact ⟨a, n, c, F, rfl, hF, hn, hc, hr, hok⟩
end Go.Proofs.Ytgobnamhdkbbeaa
