/- Acts on a ledger as arguments. -/
import Derived.Test.YtacglcpjbepfnaaLeaf
import Derived.Test.YtacglcpjbepfnaaCells
import Derived.Test.YtacglcpjbepfnaaHeapMore
namespace Go.Proofs.Ytacglcpjbepfnaa
open Go.ChangeShapes Go.WideShapes Go.ChangeAt Go.RowKit
set_option linter.unusedVariables false
set_option maxRecDepth 100000
theorem leaf_cur {w : World} {v : Value} (h : ∀ d, LeafOk Try.prog w d 24 v) : ∃ n : Nat, v = .int .u8 n ∧ n ≤ 255 := by
  obtain ⟨n, rfl, hw⟩ := leaf_int Try.underlying24 h
  have := bounds_u8 hw
  exact ⟨n.toNat, by rw [Int.toNat_of_nonneg this.1], by omega⟩
theorem leaf_u8 {w : World} {v : Value} (h : ∀ d, LeafOk Try.prog w d 5 v) : ∃ n : Nat, v = .int .u8 n ∧ n ≤ 255 := by
  obtain ⟨n, rfl, hw⟩ := leaf_int Try.underlying5 h
  have := bounds_u8 hw
  exact ⟨n.toNat, by rw [Int.toNat_of_nonneg this.1], by omega⟩
/-- An act on a ledger. -/
structure LAct where
  k : Nat
  a : Nat
  b : Nat
  c : Nat
  n : Int
abbrev act (k : Int) (a : Int) (b : Int) (c : Int) (n : Int) : Array Value := #[.int .u8 k, .int .u8 a, .int .u8 b, .int .u8 c, .int .i64 n]
section
variable (k : Int) (a : Int) (b : Int) (c : Int) (n : Int)
theorem act_sz : (act k a b c n).size = 5 := rfl
theorem act_g0 : (act k a b c n)[0]? = some (.int .u8 k) := rfl
theorem act_s0 (v : Int) : (act k a b c n).setIfInBounds 0 (.int .u8 v) = act v a b c n := rfl
theorem act_g1 : (act k a b c n)[1]? = some (.int .u8 a) := rfl
theorem act_s1 (v : Int) : (act k a b c n).setIfInBounds 1 (.int .u8 v) = act k v b c n := rfl
theorem act_g2 : (act k a b c n)[2]? = some (.int .u8 b) := rfl
theorem act_s2 (v : Int) : (act k a b c n).setIfInBounds 2 (.int .u8 v) = act k a v c n := rfl
theorem act_g3 : (act k a b c n)[3]? = some (.int .u8 c) := rfl
theorem act_s3 (v : Int) : (act k a b c n).setIfInBounds 3 (.int .u8 v) = act k a b v n := rfl
theorem act_g4 : (act k a b c n)[4]? = some (.int .i64 n) := rfl
theorem act_s4 (v : Int) : (act k a b c n).setIfInBounds 4 (.int .i64 v) = act k a b c v := rfl
end
def actV (x : LAct) : List Value := [.int .u8 (x.k : Int), .int .u8 (x.a : Int), .int .u8 (x.b : Int), .int .u8 (x.c : Int), .int .i64 x.n]
def actL (F : List LAct) : List Value := F.flatMap actV
theorem actL_len (F : List LAct) : (actL F).length = F.length * 5 := by
  induction F with
  | nil => rfl
  | cons x F ih => simp only [actL, List.flatMap_cons, List.length_append] at *; rw [ih]; simp [actV, Nat.add_mul]; omega
theorem actL_at (F : List LAct) (i : Nat) (h : i < F.length) : ((actL F).drop (i * 5)).take 5 = actV F[i] := by
  induction F generalizing i with
  | nil => simp at h
  | cons x F ih =>
    rcases i with _ | i
    · simp [actL, actV]
    · have : (i + 1) * 5 = 5 + i * 5 := by omega
      rw [this, ← List.drop_drop]
      simp only [List.length_cons] at h
      have := ih i (by omega)
      simpa [actL, actV] using this
abbrev actA (x : LAct) : Array Value := act (x.k : Int) (x.a : Int) (x.b : Int) (x.c : Int) x.n
theorem actL_row (F : List LAct) (i : Nat) (h : i < F.length) : (((actL F).drop (i * 5)).take 5).toArray = actA F[i] := by rw [actL_at F i h]; rfl
def ActOk (x : LAct) : Prop := x.k ≤ 255 ∧ x.a ≤ 255 ∧ x.b ≤ 255 ∧ x.c ≤ 255 ∧ (-9223372036854775808 ≤ x.n ∧ x.n ≤ 9223372036854775807)
theorem row_act : RowTy 26 5 (act 0 0 0 0 0) := ⟨⟨_, Try.underlying26, rfl⟩, by kernel_rfl, by kernel_rfl⟩
theorem act_all (k a b c n : Int) : (act k a b c n).extract 0 (0 + 5) = act k a b c n := by simp
theorem act_cells (k a b c n : Int) : Cells 5 (act k a b c n) := ⟨rfl, by simp [Value.oneCell']⟩
theorem act_splice (k a b c n k' a' b' c' n' : Int) : splice (act k a b c n) 0 (act k' a' b' c' n') = act k' a' b' c' n' := splice_all rfl
theorem flat_act : flat Try.prog 9 26 = some [5, 23, 23, 24, 2] := by kernel_rfl
def ActArg (w : World) (v : Value) : Prop := ∃ x : LAct, v = .agg (actA x) ∧ ActOk x
theorem open_act {H : Type} {enc : TypeId × Value → H} {W : World} {held : Bool} {v : Value} {d : DataW H} {p : List MemPlace} {r : Reach} {b0 : Nat}
    (hval : Value.okWide Try.prog W r b0 26 v) (h : DataW.Trod enc Try.prog W 0 (fun _ => true) held 26 v d p) : ActArg W v := by
  obtain ⟨cs, rfl, hn, hp⟩ := open_flat (.inl ⟨_, Try.underlying26⟩) flat_act hval h
  obtain ⟨x0, h0, k0⟩ := hp 0 _ rfl
  obtain ⟨x1, h1, k1⟩ := hp 1 _ rfl
  obtain ⟨x2, h2, k2⟩ := hp 2 _ rfl
  obtain ⟨x3, h3, k3⟩ := hp 3 _ rfl
  obtain ⟨x4, h4, k4⟩ := hp 4 _ rfl
  obtain ⟨w0, rfl, q0⟩ := leaf_u8 k0
  obtain ⟨w1, rfl, q1⟩ := leaf_party k1
  obtain ⟨w2, rfl, q2⟩ := leaf_party k2
  obtain ⟨w3, rfl, q3⟩ := leaf_cur k3
  obtain ⟨w4, rfl, q4⟩ := leaf_i64 k4
  obtain ⟨l⟩ := cs
  refine ⟨⟨w0, w1, w2, w3, w4⟩, ?_, q0, q1, q2, q3, q4⟩
  match l, hn with
  | [c0, c1, c2, c3, c4], _ => simp at h0 h1 h2 h3 h4; subst_vars; rfl
structure ActsArg (w : World) (a : Option Addr) (n c : Nat) (F : List LAct) : Prop where
  len : F.length = n
  cap : n ≤ c
  max : c ≤ maxLen
  rd : Rd w a (actL F)
  ok : ∀ x ∈ F, ActOk x
theorem act_cellsOf : Try.prog.cellsOf 26 = 5 := by kernel_rfl
theorem acts_of {w : World} : ∀ (n : Nat) (xs : List Value), xs.length = n * 5 → (∀ (i j : Nat) (u : TypeId), i < n → ([5, 23, 23, 24, 2] : List TypeId)[j]? = some u → ∃ v, xs[i * 5 + j]? = some v ∧ ∀ d, LeafOk Try.prog w d u v) → ∃ F : List LAct, F.length = n ∧ xs = actL F ∧ ∀ x ∈ F, ActOk x
  | 0, xs, hl, _ => ⟨[], rfl, by simpa [actL] using hl, by simp⟩
  | n + 1, xs, hl, h => by
    rcases xs with _ | ⟨c0, _ | ⟨c1, _ | ⟨c2, _ | ⟨c3, _ | ⟨c4, ys⟩⟩⟩⟩⟩
    · simp at hl
    · simp at hl; omega
    · simp at hl; omega
    · simp at hl; omega
    · simp at hl; omega
    · obtain ⟨x0, h0, k0⟩ := h 0 0 _ (by omega) rfl
      obtain ⟨x1, h1, k1⟩ := h 0 1 _ (by omega) rfl
      obtain ⟨x2, h2, k2⟩ := h 0 2 _ (by omega) rfl
      obtain ⟨x3, h3, k3⟩ := h 0 3 _ (by omega) rfl
      obtain ⟨x4, h4, k4⟩ := h 0 4 _ (by omega) rfl
      simp at h0 h1 h2 h3 h4
      subst h0 h1 h2 h3 h4
      obtain ⟨w0, rfl, q0⟩ := leaf_u8 k0
      obtain ⟨w1, rfl, q1⟩ := leaf_party k1
      obtain ⟨w2, rfl, q2⟩ := leaf_party k2
      obtain ⟨w3, rfl, q3⟩ := leaf_cur k3
      obtain ⟨w4, rfl, q4⟩ := leaf_i64 k4
      obtain ⟨F, hF, rfl, hok⟩ := acts_of n ys (by simp at hl; omega) (fun i j u hi hj => by
        obtain ⟨v, hv, hk⟩ := h (i + 1) j u (by omega) hj
        refine ⟨v, ?_, hk⟩
        rw [show (i + 1) * 5 + j = (i * 5 + j) + 5 by omega] at hv
        simpa using hv)
      exact ⟨⟨w0, w1, w2, w3, w4⟩ :: F, by simp [hF], by simp [actL, actV], fun x hx => by
        rcases List.mem_cons.1 hx with rfl | hx
        · exact ⟨q0, q1, q2, q3, q4⟩
        · exact hok x hx⟩
theorem open_acts {H : Type} {enc : TypeId × Value → H} {W : World} {held : Bool} {v : Value} {d : DataW H} {p : List MemPlace} {r : Reach} {b0 : Nat}
    (hval : Value.okWide Try.prog W r b0 22 v) (h : DataW.Trod enc Try.prog W 0 (fun _ => true) held 22 v d p) : ∃ a n c F, v = .slice a n c ∧ ActsArg W a n c F := by
  have hk := fun d => open_sl Try.underlying22 hval h d
  obtain ⟨a, n, c, xs, rfl, hn, hc, hl, hr, _, hp⟩ := leaf_slice Try.underlying22 flat_act hk
  rw [act_cellsOf] at hl hp
  obtain ⟨F, hF, rfl, hok⟩ := acts_of (w := W) n xs hl hp
  exact ⟨a, n, c, F, rfl, hF, hn, hc, hr, hok⟩
def ActsV (w : World) (v : Value) : Prop := ∃ a n c F, v = .slice a n c ∧ ActsArg w a n c F
theorem open_actsV {H : Type} {enc : TypeId × Value → H} {W : World} {held : Bool} {v : Value} {d : DataW H} {p : List MemPlace} {r : Reach} {b0 : Nat}
    (hval : Value.okWide Try.prog W r b0 22 v) (h : DataW.Trod enc Try.prog W 0 (fun _ => true) held 22 v d p) : ActsV W v := open_acts hval h
end Go.Proofs.Ytacglcpjbepfnaa
