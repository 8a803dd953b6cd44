/- Lists of edges with costs, as arguments. -/
import Derived.Test.YtglehneaphigdaaOpen05
import Derived.Test.YtglehneaphigdaaOnce
namespace Go.Proofs.Ytglehneaphigdaa
open Go.ChangeShapes Go.WideShapes Go.ChangeAt Go.RowKit
set_option linter.unusedVariables false
set_option maxRecDepth 100000
theorem flat_edge : flat Try.prog 9 64 = some [33, 33, 62] := by kernel_rfl
theorem leaf_i8 {w : World} {v : Value} (h : ∀ d, LeafOk Try.prog w d 62 v) : ∃ n : Int, v = .int .i8 n ∧ -128 ≤ n ∧ n ≤ 127 := by
  obtain ⟨n, rfl, hw⟩ := leaf_int Try.underlying62 h
  exact ⟨n, rfl, (bounds_i8 hw).1, (bounds_i8 hw).2⟩
/-- A list of edges that came in. -/
structure EdgesArg (w : World) (a : Option Addr) (n c : Nat) (F : List Edg) : Prop where
  len : F.length = n
  cap : n ≤ c
  max : c ≤ maxLen
  rd : Rd w a (edgL F)
  ok : ∀ x ∈ F, EdgOk x
theorem edge_cellsOf : Try.prog.cellsOf 64 = 3 := by kernel_rfl
theorem edges_of {w : World} : ∀ (n : Nat) (xs : List Value), xs.length = n * 3 → (∀ (i j : Nat) (u : TypeId), i < n → ([33, 33, 62] : List TypeId)[j]? = some u → ∃ v, xs[i * 3 + j]? = some v ∧ ∀ d, LeafOk Try.prog w d u v) → ∃ F : List Edg, F.length = n ∧ xs = edgL F ∧ ∀ x ∈ F, EdgOk x
  | 0, xs, hl, _ => ⟨[], rfl, by simpa [edgL] using hl, by simp⟩
  | n + 1, xs, hl, h => by
    rcases xs with _ | ⟨c0, _ | ⟨c1, _ | ⟨c2, ys⟩⟩⟩
    · simp at hl
    · simp at hl; omega
    · simp at hl; omega
    · obtain ⟨x0, h0, k0⟩ := h 0 0 _ (by omega) rfl
      obtain ⟨x1, h1, k1⟩ := h 0 1 _ (by omega) rfl
      obtain ⟨x2, h2, k2⟩ := h 0 2 _ (by omega) rfl
      simp at h0 h1 h2
      subst h0 h1 h2
      obtain ⟨a, rfl, ha⟩ := leaf_party k0
      obtain ⟨b, rfl, hb⟩ := leaf_party k1
      obtain ⟨m, rfl, hn0, hn1⟩ := leaf_i8 k2
      obtain ⟨F, hF, rfl, hok⟩ := edges_of n ys (by simp at hl; omega) (fun i j u hi hj => by
        obtain ⟨v, hv, hk⟩ := h (i + 1) j u (by omega) hj
        refine ⟨v, ?_, hk⟩
        rw [show (i + 1) * 3 + j = (i * 3 + j) + 3 by omega] at hv
        simpa using hv)
      exact ⟨⟨a, b, m⟩ :: F, by simp [hF], by simp [edgL, edgV], fun x hx => by
        rcases List.mem_cons.1 hx with rfl | hx
        · exact ⟨ha, hb, hn0, hn1⟩
        · exact hok x hx⟩
def EdgesV (w : World) (v : Value) : Prop := ∃ a n c F, v = .slice a n c ∧ EdgesArg w a n c F
theorem open_edgesV {H : Type} {enc : TypeId × Value → H} {W : World} {held : Bool} {v : Value} {d : DataW H} {p : List MemPlace} {r : Reach} {b0 : Nat}
    (hval : Value.okWide Try.prog W r b0 61 v) (h : DataW.Trod enc Try.prog W 0 (fun _ => true) held 61 v d p) : EdgesV W v := by
  have hk := fun d => open_sl Try.underlying61 hval h d
  obtain ⟨a, n, c, xs, rfl, hn, hc, hl, hr, _, hp⟩ := leaf_slice Try.underlying61 flat_edge hk
  rw [edge_cellsOf] at hl hp
  obtain ⟨F, hF, rfl, hok⟩ := edges_of (w := W) n xs hl hp
  exact ⟨a, n, c, F, rfl, hF, hn, hc, hr, hok⟩
end Go.Proofs.Ytglehneaphigdaa
