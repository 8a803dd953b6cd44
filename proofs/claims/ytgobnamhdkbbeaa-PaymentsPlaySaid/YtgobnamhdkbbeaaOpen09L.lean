/- Lists of Asks for payments, as arguments. -/
import Derived.Test.YtgobnamhdkbbeaaPayGPart15
namespace Go.Proofs.Ytgobnamhdkbbeaa
open Go.ChangeShapes Go.WideShapes Go.ChangeAt Go.RowKit
set_option linter.unusedVariables false
set_option maxRecDepth 100000
abbrev askV (x : Ask9) : List Value := (askA x).toList
def askL (F : List Ask9) : List Value := F.flatMap askV
theorem askL_len (F : List Ask9) : (askL F).length = F.length * 4 := by
  induction F with
  | nil => rfl
  | cons x F ih => simp only [askL, List.flatMap_cons, List.length_append] at *; rw [ih]; simp [askV, Nat.add_mul]; omega
theorem askL_at (F : List Ask9) (i : Nat) (h : i < F.length) : ((askL F).drop (i * 4)).take 4 = askV F[i] := by
  induction F generalizing i with
  | nil => simp at h
  | cons x F ih =>
    cases i with
    | zero => simp [askL, askV]
    | succ i =>
      have e : (i + 1) * 4 = i * 4 + 4 := by omega
      have e2 : askL (x :: F) = askV x ++ askL F := rfl
      rw [e, e2, show i * 4 + 4 = (askV x).length + i * 4 by simp [askV]; omega, ← List.drop_drop, List.drop_left]
      simpa using ih i (by simpa using h)
theorem askL_row (F : List Ask9) (i : Nat) (h : i < F.length) : (((askL F).drop (i * 4)).take 4).toArray = askA F[i] := by rw [askL_at F i h]
theorem ask9_cellsOf : Try.prog.cellsOf 43 = 4 := by kernel_rfl
structure AsksArg (w : World) (a : Option Addr) (n c : Nat) (F : List Ask9) : Prop where
  len : F.length = n
  cap : n ≤ c
  max : c ≤ maxLen
  rd : Rd w a (askL F)
  ok : ∀ x ∈ F, AskOk x
theorem asks_of {w : World} : ∀ (n : Nat) (xs : List Value), xs.length = n * 4 → (∀ (i j : Nat) (u : TypeId), i < n → ([30, 30, 23, 2] : List TypeId)[j]? = some u → ∃ v, xs[i * 4 + j]? = some v ∧ ∀ d, LeafOk Try.prog w d u v) → ∃ F : List Ask9, F.length = n ∧ xs = askL F ∧ ∀ x ∈ F, AskOk x
  | 0, xs, hl, _ => ⟨[], rfl, by simpa [askL] using hl, by simp⟩
  | n + 1, xs, hl, h => by
    rcases xs with _ | ⟨c0, _ | ⟨c1, _ | ⟨c2, _ | ⟨c3, ys⟩⟩⟩⟩
    · simp at hl
    · simp at hl; omega
    · simp at hl; omega
    · simp at hl; omega
    · obtain ⟨x0, h0, k0⟩ := h 0 0 _ (by omega) rfl
      obtain ⟨x1, h1, k1⟩ := h 0 1 _ (by omega) rfl
      obtain ⟨x2, h2, k2⟩ := h 0 2 _ (by omega) rfl
      obtain ⟨x3, h3, k3⟩ := h 0 3 _ (by omega) rfl
      simp at h0 h1 h2 h3
      subst h0 h1 h2 h3
      obtain ⟨w0, rfl, q0⟩ := leaf_party k0
      obtain ⟨w1, rfl, q1⟩ := leaf_party k1
      obtain ⟨w2, rfl, q2⟩ := leaf_cur k2
      obtain ⟨w3, rfl, q3⟩ := leaf_i64 k3
      obtain ⟨F, hF, rfl, hok⟩ := asks_of n ys (by simp at hl; omega) (fun i j u hi hj => by
        obtain ⟨v, hv, hk⟩ := h (i + 1) j u (by omega) hj
        refine ⟨v, ?_, hk⟩
        rw [show (i + 1) * 4 + j = (i * 4 + j) + 4 by omega] at hv
        simpa using hv)
      exact ⟨⟨w0, w1, w2, w3⟩ :: F, by simp [hF], by simp [askL, askV], fun x hx => by
        rcases List.mem_cons.1 hx with rfl | hx
        · exact ⟨q0, q1, q2, q3⟩
        · exact hok x hx⟩
def AsksV (w : World) (v : Value) : Prop := ∃ a n c F, v = .slice a n c ∧ AsksArg w a n c F
theorem open_asksV {H : Type} {enc : TypeId × Value → H} {W : World} {held : Bool} {v : Value} {d : DataW H} {p : List MemPlace} {r : Reach} {b0 : Nat}
    (hval : Value.okWide Try.prog W r b0 53 v) (h : DataW.Trod enc Try.prog W 0 (fun _ => true) held 53 v d p) : AsksV W v := by
  have hk := fun d => open_sl Try.underlying53 hval h d
  obtain ⟨a, n, c, xs, rfl, hn, hc, hl, hr, _, hp⟩ := leaf_slice Try.underlying53 flat_ask9 hk
  rw [ask9_cellsOf] at hl hp
  obtain ⟨F, hF, rfl, hok⟩ := asks_of (w := W) n xs hl hp
  exact ⟨a, n, c, F, rfl, hF, hn, hc, hr, hok⟩
end Go.Proofs.Ytgobnamhdkbbeaa
