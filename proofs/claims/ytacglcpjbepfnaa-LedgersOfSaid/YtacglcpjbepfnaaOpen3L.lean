/- Lists of parties, of lines, as arguments. -/
import Derived.Test.YtacglcpjbepfnaaOpen03
import Derived.Test.YtacglcpjbepfnaaLedOf
import Derived.Test.YtacglcpjbepfnaaLedSort
namespace Go.Proofs.Ytacglcpjbepfnaa
open Go.ChangeShapes Go.WideShapes Go.ChangeAt Go.RowKit
set_option linter.unusedVariables false
set_option maxRecDepth 100000
theorem flat_party : flat Try.prog 9 23 = some [23] := by kernel_rfl
theorem party_cellsOf : Try.prog.cellsOf 23 = 1 := by kernel_rfl
theorem flat_line : flat Try.prog 9 39 = some [23, 23, 24, 2, 2] := by kernel_rfl
theorem line_cellsOf : Try.prog.cellsOf 39 = 5 := by kernel_rfl
structure ParsArg (w : World) (a : Option Addr) (n c : Nat) (P : List Int) : Prop where
  len : P.length = n
  cap : n ≤ c
  max : c ≤ maxLen
  rd : Rd w a (pI P)
  ok : ∀ x ∈ P, 0 ≤ x ∧ x ≤ 255
structure LinsArg (w : World) (a : Option Addr) (n c : Nat) (X : List Lin) : Prop where
  len : X.length = n
  cap : n ≤ c
  max : c ≤ maxLen
  rd : Rd w a (linL X)
  ok : ∀ x ∈ X, LinArg x
theorem pars_of {w : World} : ∀ (n : Nat) (xs : List Value), xs.length = n * 1 → (∀ (i j : Nat) (u : TypeId), i < n → ([23] : List TypeId)[j]? = some u → ∃ v, xs[i * 1 + j]? = some v ∧ ∀ d, LeafOk Try.prog w d u v) → ∃ P : List Int, P.length = n ∧ xs = pI P ∧ ∀ x ∈ P, 0 ≤ x ∧ x ≤ 255
  | 0, xs, hl, _ => ⟨[], rfl, by simpa [pI] using hl, by simp⟩
  | n + 1, xs, hl, h => by
    rcases xs with _ | ⟨c0, ys⟩
    · simp at hl
    · obtain ⟨x0, h0, k0⟩ := h 0 0 _ (by omega) rfl
      simp at h0
      subst h0
      obtain ⟨w0, rfl, q0⟩ := leaf_party k0
      obtain ⟨P, hP, rfl, hok⟩ := pars_of n ys (by simp at hl; omega) (fun i j u hi hj => by
        obtain ⟨v, hv, hk⟩ := h (i + 1) j u (by omega) hj
        refine ⟨v, ?_, hk⟩
        rw [show (i + 1) * 1 + j = (i * 1 + j) + 1 by omega] at hv
        simpa using hv)
      exact ⟨(w0 : Int) :: P, by simp [hP], by simp [pI], fun x hx => by
        rcases List.mem_cons.1 hx with rfl | hx
        · omega
        · exact hok x hx⟩
theorem lins_of {w : World} : ∀ (n : Nat) (xs : List Value), xs.length = n * 5 → (∀ (i j : Nat) (u : TypeId), i < n → ([23, 23, 24, 2, 2] : List TypeId)[j]? = some u → ∃ v, xs[i * 5 + j]? = some v ∧ ∀ d, LeafOk Try.prog w d u v) → ∃ X : List Lin, X.length = n ∧ xs = linL X ∧ ∀ x ∈ X, LinArg x
  | 0, xs, hl, _ => ⟨[], rfl, by simpa [linL] using hl, by simp⟩
  | n + 1, xs, hl, h => by
    rcases xs with _ | ⟨c0, _ | ⟨c1, _ | ⟨c2, _ | ⟨c3, _ | ⟨c4, ys⟩⟩⟩⟩⟩
    · simp at hl
    · simp at hl; omega
    · simp at hl; omega
    · simp at hl; omega
    · simp at hl; omega
    · obtain ⟨x0, h0, k0⟩ := h 0 0 _ (by omega) rfl
      obtain ⟨x1, h1, k1⟩ := h 0 1 _ (by omega) rfl
      obtain ⟨x2, h2, k2⟩ := h 0 2 _ (by omega) rfl
      obtain ⟨x3, h3, k3⟩ := h 0 3 _ (by omega) rfl
      obtain ⟨x4, h4, k4⟩ := h 0 4 _ (by omega) rfl
      simp at h0 h1 h2 h3 h4
      subst h0 h1 h2 h3 h4
      obtain ⟨w0, rfl, q0⟩ := leaf_party k0
      obtain ⟨w1, rfl, q1⟩ := leaf_party k1
      obtain ⟨w2, rfl, q2⟩ := leaf_cur k2
      obtain ⟨w3, rfl, q3⟩ := leaf_i64 k3
      obtain ⟨w4, rfl, q4⟩ := leaf_i64 k4
      obtain ⟨X, hX, rfl, hok⟩ := lins_of n ys (by simp at hl; omega) (fun i j u hi hj => by
        obtain ⟨v, hv, hk⟩ := h (i + 1) j u (by omega) hj
        refine ⟨v, ?_, hk⟩
        rw [show (i + 1) * 5 + j = (i * 5 + j) + 5 by omega] at hv
        simpa using hv)
      exact ⟨⟨(w0 : Int), (w1 : Int), (w2 : Int), w3, w4⟩ :: X, by simp [hX], by simp [linL, linV], fun x hx => by
        rcases List.mem_cons.1 hx with rfl | hx
        · unfold LinArg; simp only; omega
        · exact hok x hx⟩
def ParsV (w : World) (v : Value) : Prop := ∃ a n c P, v = .slice a n c ∧ ParsArg w a n c P
def LinsV (w : World) (v : Value) : Prop := ∃ a n c X, v = .slice a n c ∧ LinsArg w a n c X
theorem open_parsV {H : Type} {enc : TypeId × Value → H} {W : World} {held : Bool} {v : Value} {d : DataW H} {p : List MemPlace} {r : Reach} {b0 : Nat}
    (hval : Value.okWide Try.prog W r b0 43 v) (h : DataW.Trod enc Try.prog W 0 (fun _ => true) held 43 v d p) : ParsV W v := by
  have hk := fun d => open_sl Try.underlying43 hval h d
  obtain ⟨a, n, c, xs, rfl, hn, hc, hl, hr, _, hp⟩ := leaf_slice Try.underlying43 flat_party hk
  rw [party_cellsOf] at hl hp
  obtain ⟨P, hP, rfl, hok⟩ := pars_of (w := W) n xs hl hp
  exact ⟨a, n, c, P, rfl, hP, hn, hc, hr, hok⟩
theorem open_linsV {H : Type} {enc : TypeId × Value → H} {W : World} {held : Bool} {v : Value} {d : DataW H} {p : List MemPlace} {r : Reach} {b0 : Nat}
    (hval : Value.okWide Try.prog W r b0 35 v) (h : DataW.Trod enc Try.prog W 0 (fun _ => true) held 35 v d p) : LinsV W v := by
  have hk := fun d => open_sl Try.underlying35 hval h d
  obtain ⟨a, n, c, xs, rfl, hn, hc, hl, hr, _, hp⟩ := leaf_slice Try.underlying35 flat_line hk
  rw [line_cellsOf] at hl hp
  obtain ⟨X, hX, rfl, hok⟩ := lins_of (w := W) n xs hl hp
  exact ⟨a, n, c, X, rfl, hX, hn, hc, hr, hok⟩
end Go.Proofs.Ytacglcpjbepfnaa
