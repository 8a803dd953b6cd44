/- Offers, acts on a book, lists of both, as arguments. (Printed by gen/open04.py.) -/
import Derived.Test.YtacglcpjbepfnaaBok2
import Derived.Test.YtacglcpjbepfnaaLeaf
import Derived.Test.YtacglcpjbepfnaaHeapMore
namespace Go.Proofs.Ytacglcpjbepfnaa
open Go.ChangeShapes Go.WideShapes Go.ChangeAt Go.RowKit
set_option linter.unusedVariables false
set_option linter.unusedSimpArgs false
set_option maxRecDepth 100000
/-- An act on a book. -/
structure OAct where
  (k : Int) (o : Ofr) (n : Int)
def oactV (x : OAct) : List Value := [.int .u8 x.k, .int .u64 x.o.sq, .int .u8 x.o.ow, .int .u8 x.o.se, .int .u8 x.o.bu, .int .i64 x.o.le, .int .i64 x.o.nu, .int .i64 x.o.de, .int .i64 x.n]
def oactA (x : OAct) : Array Value := (oactV x).toArray
def oactL (F : List OAct) : List Value := F.flatMap oactV
theorem oact_g0 (x : OAct) : (oactA x)[0]? = some (.int .u8 x.k) := rfl
theorem oact_g1 (x : OAct) : (oactA x)[1]? = some (.int .u64 x.o.sq) := rfl
theorem oact_g2 (x : OAct) : (oactA x)[2]? = some (.int .u8 x.o.ow) := rfl
theorem oact_g3 (x : OAct) : (oactA x)[3]? = some (.int .u8 x.o.se) := rfl
theorem oact_g4 (x : OAct) : (oactA x)[4]? = some (.int .u8 x.o.bu) := rfl
theorem oact_g5 (x : OAct) : (oactA x)[5]? = some (.int .i64 x.o.le) := rfl
theorem oact_g8 (x : OAct) : (oactA x)[8]? = some (.int .i64 x.n) := rfl
theorem oact_sz (x : OAct) : (oactA x).size = 9 := rfl
theorem oact_rat (x : OAct) : (oactA x).extract 6 (6 + 2) = #[.int .i64 x.o.nu, .int .i64 x.o.de] := by simp [oactA, oactV]
theorem oact_ofr (x : OAct) : (oactA x).extract 1 (1 + 7) = ofrA x.o := by simp [oactA, oactV, ofrA, ofrV]
theorem row_oact : RowTy 97 9 (oactA ⟨0, ⟨0, 0, 0, 0, 0, 0, 0⟩, 0⟩) := ⟨⟨_, Try.underlying97, rfl⟩, by kernel_rfl, by kernel_rfl⟩
theorem oactL_len (F : List OAct) : (oactL F).length = F.length * 9 := by
  induction F with
  | nil => rfl
  | cons x F ih => simp only [oactL, List.flatMap_cons, List.length_append] at *; rw [ih]; simp [oactV, Nat.add_mul]; omega
theorem oactL_at (F : List OAct) (i : Nat) (h : i < F.length) : ((oactL F).drop (i * 9)).take 9 = oactV F[i] := by
  induction F generalizing i with
  | nil => simp at h
  | cons x F ih =>
    rcases i with _ | i
    · simp [oactL, oactV]
    · have : (i + 1) * 9 = 9 + i * 9 := by omega
      rw [this, ← List.drop_drop]
      simp only [List.length_cons] at h
      have := ih i (by omega)
      simpa [oactL, oactV] using this
structure OActOk (x : OAct) : Prop where
  k : 0 ≤ x.k ∧ x.k ≤ 255
  o : OfrOk x.o
  n : -9223372036854775808 ≤ x.n ∧ x.n ≤ 9223372036854775807
theorem leafI_u64 {w : World} {v : Value} (h : ∀ d, LeafOk Try.prog w d 79 v) : ∃ n : Int, v = .int .u64 n ∧ 0 ≤ n ∧ n ≤ 18446744073709551615 := by
  obtain ⟨n, rfl, hw⟩ := leaf_int Try.underlying79 h
  exact ⟨n, rfl, bounds_u64 hw⟩
theorem leafI_u8 {w : World} {v : Value} {u : TypeId} (hu : Try.prog.underlying u = some (.int .u8)) (h : ∀ d, LeafOk Try.prog w d u v) : ∃ n : Int, v = .int .u8 n ∧ 0 ≤ n ∧ n ≤ 255 := by
  obtain ⟨n, rfl, hw⟩ := leaf_int hu h
  exact ⟨n, rfl, (bounds_u8 hw).1, (bounds_u8 hw).2⟩
theorem flat_oact : flat Try.prog 9 97 = some [5, 79, 23, 24, 24, 2, 2, 2, 2] := by kernel_rfl
theorem oact_cellsOf : Try.prog.cellsOf 97 = 9 := by kernel_rfl
def OActArg (w : World) (v : Value) : Prop := ∃ x : OAct, v = .agg (oactA x) ∧ OActOk x
theorem open_oact {H : Type} {enc : TypeId × Value → H} {W : World} {held : Bool} {v : Value} {d : DataW H} {p : List MemPlace} {r : Reach} {b0 : Nat}
    (hval : Value.okWide Try.prog W r b0 97 v) (h : DataW.Trod enc Try.prog W 0 (fun _ => true) held 97 v d p) : OActArg W v := by
  obtain ⟨cs, rfl, hn, hp⟩ := open_flat (.inl ⟨_, Try.underlying97⟩) flat_oact hval h
  obtain ⟨x0, h0, k0⟩ := hp 0 _ rfl
  obtain ⟨x1, h1, k1⟩ := hp 1 _ rfl
  obtain ⟨x2, h2, k2⟩ := hp 2 _ rfl
  obtain ⟨x3, h3, k3⟩ := hp 3 _ rfl
  obtain ⟨x4, h4, k4⟩ := hp 4 _ rfl
  obtain ⟨x5, h5, k5⟩ := hp 5 _ rfl
  obtain ⟨x6, h6, k6⟩ := hp 6 _ rfl
  obtain ⟨x7, h7, k7⟩ := hp 7 _ rfl
  obtain ⟨x8, h8, k8⟩ := hp 8 _ rfl
  obtain ⟨w0, rfl, q0⟩ := leafI_u8 Try.underlying5 k0
  obtain ⟨w1, rfl, q1⟩ := leafI_u64 k1
  obtain ⟨w2, rfl, q2⟩ := leafI_u8 Try.underlying23 k2
  obtain ⟨w3, rfl, q3⟩ := leafI_u8 Try.underlying24 k3
  obtain ⟨w4, rfl, q4⟩ := leafI_u8 Try.underlying24 k4
  obtain ⟨w5, rfl, q5⟩ := leaf_i64 k5
  obtain ⟨w6, rfl, q6⟩ := leaf_i64 k6
  obtain ⟨w7, rfl, q7⟩ := leaf_i64 k7
  obtain ⟨w8, rfl, q8⟩ := leaf_i64 k8
  obtain ⟨l⟩ := cs
  refine ⟨⟨w0, ⟨w1, w2, w3, w4, w5, w6, w7⟩, w8⟩, ?_, ⟨q0, ⟨q1, q2, q3, q4, q5, q6, q7⟩, q8⟩⟩
  match l, hn with
  | [c0, c1, c2, c3, c4, c5, c6, c7, c8], _ => simp at h0 h1 h2 h3 h4 h5 h6 h7 h8; subst_vars; rfl
structure OActsArg (w : World) (a : Option Addr) (n c : Nat) (F : List OAct) : Prop where
  len : F.length = n
  cap : n ≤ c
  max : c ≤ maxLen
  rd : Rd w a (oactL F)
  ok : ∀ x ∈ F, OActOk x
theorem oacts_of {w : World} : ∀ (n : Nat) (xs : List Value), xs.length = n * 9 → (∀ (i j : Nat) (u : TypeId), i < n → ([5, 79, 23, 24, 24, 2, 2, 2, 2] : List TypeId)[j]? = some u → ∃ v, xs[i * 9 + j]? = some v ∧ ∀ d, LeafOk Try.prog w d u v) → ∃ F : List OAct, F.length = n ∧ xs = oactL F ∧ ∀ x ∈ F, OActOk x
  | 0, xs, hl, _ => ⟨[], rfl, by simpa [oactL] using hl, by simp⟩
  | n + 1, xs, hl, h => by
    rcases xs with _ | ⟨c0, _ | ⟨c1, _ | ⟨c2, _ | ⟨c3, _ | ⟨c4, _ | ⟨c5, _ | ⟨c6, _ | ⟨c7, _ | ⟨c8, ys⟩⟩⟩⟩⟩⟩⟩⟩⟩
    · simp at hl
    · simp at hl; omega
    · simp at hl; omega
    · simp at hl; omega
    · simp at hl; omega
    · simp at hl; omega
    · simp at hl; omega
    · simp at hl; omega
    · simp at hl; omega
    · obtain ⟨x0, h0, k0⟩ := h 0 0 _ (by omega) rfl
      obtain ⟨x1, h1, k1⟩ := h 0 1 _ (by omega) rfl
      obtain ⟨x2, h2, k2⟩ := h 0 2 _ (by omega) rfl
      obtain ⟨x3, h3, k3⟩ := h 0 3 _ (by omega) rfl
      obtain ⟨x4, h4, k4⟩ := h 0 4 _ (by omega) rfl
      obtain ⟨x5, h5, k5⟩ := h 0 5 _ (by omega) rfl
      obtain ⟨x6, h6, k6⟩ := h 0 6 _ (by omega) rfl
      obtain ⟨x7, h7, k7⟩ := h 0 7 _ (by omega) rfl
      obtain ⟨x8, h8, k8⟩ := h 0 8 _ (by omega) rfl
      simp at h0 h1 h2 h3 h4 h5 h6 h7 h8
      subst h0 h1 h2 h3 h4 h5 h6 h7 h8
      obtain ⟨w0, rfl, q0⟩ := leafI_u8 Try.underlying5 k0
      obtain ⟨w1, rfl, q1⟩ := leafI_u64 k1
      obtain ⟨w2, rfl, q2⟩ := leafI_u8 Try.underlying23 k2
      obtain ⟨w3, rfl, q3⟩ := leafI_u8 Try.underlying24 k3
      obtain ⟨w4, rfl, q4⟩ := leafI_u8 Try.underlying24 k4
      obtain ⟨w5, rfl, q5⟩ := leaf_i64 k5
      obtain ⟨w6, rfl, q6⟩ := leaf_i64 k6
      obtain ⟨w7, rfl, q7⟩ := leaf_i64 k7
      obtain ⟨w8, rfl, q8⟩ := leaf_i64 k8
      obtain ⟨F, hF, rfl, hok⟩ := oacts_of n ys (by simp at hl; omega) (fun i j u hi hj => by
        obtain ⟨v, hv, hk⟩ := h (i + 1) j u (by omega) hj
        refine ⟨v, ?_, hk⟩
        rw [show (i + 1) * 9 + j = (i * 9 + j) + 9 by omega] at hv
        simpa using hv)
      exact ⟨⟨w0, ⟨w1, w2, w3, w4, w5, w6, w7⟩, w8⟩ :: F, by simp [hF], by simp [oactL, oactV], fun x hx => by
        rcases List.mem_cons.1 hx with rfl | hx
        · exact ⟨q0, ⟨q1, q2, q3, q4, q5, q6, q7⟩, q8⟩
        · exact hok x hx⟩
def OActsV (w : World) (v : Value) : Prop := ∃ a n c F, v = .slice a n c ∧ OActsArg w a n c F
theorem open_oacts {H : Type} {enc : TypeId × Value → H} {W : World} {held : Bool} {v : Value} {d : DataW H} {p : List MemPlace} {r : Reach} {b0 : Nat}
    (hval : Value.okWide Try.prog W r b0 73 v) (h : DataW.Trod enc Try.prog W 0 (fun _ => true) held 73 v d p) : OActsV W v := by
  have hk := fun d => open_sl Try.underlying73 hval h d
  obtain ⟨a, n, c, xs, rfl, hn, hc, hl, hr, _, hp⟩ := leaf_slice Try.underlying73 flat_oact hk
  rw [oact_cellsOf] at hl hp
  obtain ⟨F, hF, rfl, hok⟩ := oacts_of (w := W) n xs hl hp
  exact ⟨a, n, c, F, rfl, hF, hn, hc, hr, hok⟩
theorem flat_offr : flat Try.prog 9 83 = some [79, 23, 24, 24, 2, 2, 2] := by kernel_rfl
theorem offr_cellsOf : Try.prog.cellsOf 83 = 7 := by kernel_rfl
def OffrArg (w : World) (v : Value) : Prop := ∃ x : Ofr, v = .agg (ofrA x) ∧ OfrOk x
theorem open_offr {H : Type} {enc : TypeId × Value → H} {W : World} {held : Bool} {v : Value} {d : DataW H} {p : List MemPlace} {r : Reach} {b0 : Nat}
    (hval : Value.okWide Try.prog W r b0 83 v) (h : DataW.Trod enc Try.prog W 0 (fun _ => true) held 83 v d p) : OffrArg W v := by
  obtain ⟨cs, rfl, hn, hp⟩ := open_flat (.inl ⟨_, Try.underlying83⟩) flat_offr hval h
  obtain ⟨x0, h0, k0⟩ := hp 0 _ rfl
  obtain ⟨x1, h1, k1⟩ := hp 1 _ rfl
  obtain ⟨x2, h2, k2⟩ := hp 2 _ rfl
  obtain ⟨x3, h3, k3⟩ := hp 3 _ rfl
  obtain ⟨x4, h4, k4⟩ := hp 4 _ rfl
  obtain ⟨x5, h5, k5⟩ := hp 5 _ rfl
  obtain ⟨x6, h6, k6⟩ := hp 6 _ rfl
  obtain ⟨w0, rfl, q0⟩ := leafI_u64 k0
  obtain ⟨w1, rfl, q1⟩ := leafI_u8 Try.underlying23 k1
  obtain ⟨w2, rfl, q2⟩ := leafI_u8 Try.underlying24 k2
  obtain ⟨w3, rfl, q3⟩ := leafI_u8 Try.underlying24 k3
  obtain ⟨w4, rfl, q4⟩ := leaf_i64 k4
  obtain ⟨w5, rfl, q5⟩ := leaf_i64 k5
  obtain ⟨w6, rfl, q6⟩ := leaf_i64 k6
  obtain ⟨l⟩ := cs
  refine ⟨⟨w0, w1, w2, w3, w4, w5, w6⟩, ?_, ⟨q0, q1, q2, q3, q4, q5, q6⟩⟩
  match l, hn with
  | [c0, c1, c2, c3, c4, c5, c6], _ => simp at h0 h1 h2 h3 h4 h5 h6; subst_vars; rfl
structure OffrsArg (w : World) (a : Option Addr) (n c : Nat) (F : List Ofr) : Prop where
  len : F.length = n
  cap : n ≤ c
  max : c ≤ maxLen
  rd : Rd w a (ofrL F)
  ok : ∀ x ∈ F, OfrOk x
theorem offrs_of {w : World} : ∀ (n : Nat) (xs : List Value), xs.length = n * 7 → (∀ (i j : Nat) (u : TypeId), i < n → ([79, 23, 24, 24, 2, 2, 2] : List TypeId)[j]? = some u → ∃ v, xs[i * 7 + j]? = some v ∧ ∀ d, LeafOk Try.prog w d u v) → ∃ F : List Ofr, F.length = n ∧ xs = ofrL F ∧ ∀ x ∈ F, OfrOk x
  | 0, xs, hl, _ => ⟨[], rfl, by simpa [ofrL] using hl, by simp⟩
  | n + 1, xs, hl, h => by
    rcases xs with _ | ⟨c0, _ | ⟨c1, _ | ⟨c2, _ | ⟨c3, _ | ⟨c4, _ | ⟨c5, _ | ⟨c6, ys⟩⟩⟩⟩⟩⟩⟩
    · simp at hl
    · simp at hl; omega
    · simp at hl; omega
    · simp at hl; omega
    · simp at hl; omega
    · simp at hl; omega
    · simp at hl; omega
    · obtain ⟨x0, h0, k0⟩ := h 0 0 _ (by omega) rfl
      obtain ⟨x1, h1, k1⟩ := h 0 1 _ (by omega) rfl
      obtain ⟨x2, h2, k2⟩ := h 0 2 _ (by omega) rfl
      obtain ⟨x3, h3, k3⟩ := h 0 3 _ (by omega) rfl
      obtain ⟨x4, h4, k4⟩ := h 0 4 _ (by omega) rfl
      obtain ⟨x5, h5, k5⟩ := h 0 5 _ (by omega) rfl
      obtain ⟨x6, h6, k6⟩ := h 0 6 _ (by omega) rfl
      simp at h0 h1 h2 h3 h4 h5 h6
      subst h0 h1 h2 h3 h4 h5 h6
      obtain ⟨w0, rfl, q0⟩ := leafI_u64 k0
      obtain ⟨w1, rfl, q1⟩ := leafI_u8 Try.underlying23 k1
      obtain ⟨w2, rfl, q2⟩ := leafI_u8 Try.underlying24 k2
      obtain ⟨w3, rfl, q3⟩ := leafI_u8 Try.underlying24 k3
      obtain ⟨w4, rfl, q4⟩ := leaf_i64 k4
      obtain ⟨w5, rfl, q5⟩ := leaf_i64 k5
      obtain ⟨w6, rfl, q6⟩ := leaf_i64 k6
      obtain ⟨F, hF, rfl, hok⟩ := offrs_of n ys (by simp at hl; omega) (fun i j u hi hj => by
        obtain ⟨v, hv, hk⟩ := h (i + 1) j u (by omega) hj
        refine ⟨v, ?_, hk⟩
        rw [show (i + 1) * 7 + j = (i * 7 + j) + 7 by omega] at hv
        simpa using hv)
      exact ⟨⟨w0, w1, w2, w3, w4, w5, w6⟩ :: F, by simp [hF], by simp [ofrL, ofrV], fun x hx => by
        rcases List.mem_cons.1 hx with rfl | hx
        · exact ⟨q0, q1, q2, q3, q4, q5, q6⟩
        · exact hok x hx⟩
def OffrsV (w : World) (v : Value) : Prop := ∃ a n c F, v = .slice a n c ∧ OffrsArg w a n c F
theorem open_offrs {H : Type} {enc : TypeId × Value → H} {W : World} {held : Bool} {v : Value} {d : DataW H} {p : List MemPlace} {r : Reach} {b0 : Nat}
    (hval : Value.okWide Try.prog W r b0 76 v) (h : DataW.Trod enc Try.prog W 0 (fun _ => true) held 76 v d p) : OffrsV W v := by
  have hk := fun d => open_sl Try.underlying76 hval h d
  obtain ⟨a, n, c, xs, rfl, hn, hc, hl, hr, _, hp⟩ := leaf_slice Try.underlying76 flat_offr hk
  rw [offr_cellsOf] at hl hp
  obtain ⟨F, hF, rfl, hok⟩ := offrs_of (w := W) n xs hl hp
  exact ⟨a, n, c, F, rfl, hF, hn, hc, hr, hok⟩
end Go.Proofs.Ytacglcpjbepfnaa
