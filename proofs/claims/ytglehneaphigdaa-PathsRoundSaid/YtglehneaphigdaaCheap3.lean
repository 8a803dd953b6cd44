/- The round as the document tells it: from the least party on, backward. -/
import Derived.Test.YtglehneaphigdaaCheap2
namespace Go.Proofs.Ytglehneaphigdaa
set_option linter.unusedVariables false
set_option linter.unusedSimpArgs false
/-- The round of b, of m parties. -/
def refL (P : Nat → Nat) (b m : Nat) : List Nat := (List.range m).map fun i => back P (m - i) b
theorem refL_len (P : Nat → Nat) (b m : Nat) : (refL P b m).length = m := by simp [refL]
theorem refL_get {P : Nat → Nat} {b m i : Nat} (h : i < m) : (refL P b m)[i]? = some (back P (m - i) b) := by
  unfold refL
  rw [List.getElem?_map, List.getElem?_range h]; rfl
structure Cyc (P : Nat → Nat) (a m : Nat) : Prop where
  pos : 1 ≤ m
  max : m ≤ 16
  per : back P m a = a
  min : ∀ i, 1 ≤ i → i < m → back P i a ≠ a
  rng : ∀ i, 1 ≤ back P i a ∧ back P i a ≤ 16
theorem Cyc.at {P : Nat → Nat} {a m : Nat} (h : Cyc P a m) (k : Nat) : Cyc P (back P k a) m := by
  have hper : back P m (back P k a) = back P k a := by rw [← back_add, Nat.add_comm, back_add, h.per]
  refine ⟨h.pos, h.max, hper, fun i h1 h2 e => ?_, fun i => by rw [← back_add]; exact h.rng _⟩
  have e2 : ∀ j, back P (i + j) (back P k a) = back P j (back P k a) := fun j => by rw [back_add, e]
  obtain ⟨j, hj, ej⟩ := back_per h.pos h.per k
  have hb : back P (m - j) (back P k a) = a := by rw [ej, ← back_add, show j + (m - j) = m by omega, h.per]
  have h3 := e2 (m - j)
  rw [Nat.add_comm, back_add, hb] at h3
  exact h.min i h1 h2 h3
theorem round_cyc {E : List Edg} (hE : InH E) {s : Srch} (hs : runS E 16 zeroS = some s) : ∃ m, Cyc s.P (back s.P 16 s.last) m ∧ roundOf E = turnL ((List.range m).map fun i => back s.P i (back s.P 16 s.last)).reverse := by
  have h := run_some hE 16 0 zeroS s InvL.zero hs
  have hnz := h.never hE
  obtain ⟨C, hp⟩ := h.par
  have hr : ∀ i, 1 ≤ back s.P i s.last ∧ back s.P i s.last ≤ 16 := fun i => by
    have h0 := hnz i
    cases i with
    | zero => have := h.lt; have : s.last ≠ 0 := h0; exact ⟨by show 1 ≤ s.last; omega, by show s.last ≤ 16; omega⟩
    | succ i =>
      rw [back_succ] at h0 ⊢
      have := hE _ (hp.edge _ h0)
      simp only at this
      omega
  obtain ⟨a, b, hab, hb, e⟩ := two_same (f := fun i => back s.P i s.last - 1) (n := 17) (m := 16) (fun i _ => by have := hr i; omega) (by omega)
  replace e : back s.P a s.last = back s.P b s.last := by
    have := hr a
    have := hr b
    replace e : back s.P a s.last - 1 = back s.P b s.last - 1 := e
    omega
  have hq : back s.P (b - a) (back s.P 16 s.last) = back s.P 16 s.last := by
    rw [← back_add, show 16 + (b - a) = b + (16 - a) by omega, back_add, ← e, ← back_add, show a + (16 - a) = 16 by omega]
  obtain ⟨m, hm1, hm, hmin⟩ := min_per (b - a) (by omega) hq
  have hra : ∀ i, 1 ≤ back s.P i (back s.P 16 s.last) ∧ back s.P i (back s.P 16 s.last) ≤ 16 := fun i => by rw [← back_add]; exact hr _
  unfold roundOf
  rw [hs]
  simp only
  generalize back s.P 16 s.last = x at *
  have hinj := per_inj hm hmin
  have hm16 : m ≤ 16 := by
    apply Classical.byContradiction
    intro hn
    obtain ⟨i, j, hij, hj, e⟩ := two_same (f := fun i => back s.P i x - 1) (n := 17) (m := 16) (fun i _ => by have := hra i; omega) (by omega)
    have := hra i
    have := hra j
    replace e : back s.P i x - 1 = back s.P j x - 1 := e
    exact hinj i j hij (by omega) (by omega)
  have ho : orbit s.P 18 x [] = (List.range m).map fun i => back s.P i x := orbit_cyc hm1 hm hmin 18 0 (by omega) (by omega)
  rw [ho]
  exact ⟨m, ⟨hm1, hm16, hm, hmin, hra⟩, rfl⟩
theorem turn_ref {P : Nat → Nat} {x m : Nat} (h : Cyc P x m) : ∃ b k, k < m ∧ b = back P k x ∧ (∀ i, b ≤ back P i x) ∧ turnL ((List.range m).map fun i => back P i x).reverse = refL P b m := by
  have hm1 := h.pos
  generalize hR : ((List.range m).map fun i => back P i x).reverse = R
  have hRl : R.length = m := by rw [← hR]; simp
  have hRg : ∀ i, i < m → R[i]? = some (back P (m - 1 - i) x) := fun i hi => by
    rw [← hR, List.getElem?_reverse (by simpa using hi)]
    rw [List.length_map, List.length_range, List.getElem?_map, List.getElem?_range (by omega)]
    rfl
  have hmem : ∀ i, i < m → back P i x ∈ R := fun i hi => List.mem_iff_getElem?.2 ⟨m - 1 - i, by rw [hRg _ (by omega), show m - 1 - (m - 1 - i) = i by omega]⟩
  have hmm : minL R ∈ R := minL_mem (by omega)
  have hk := List.idxOf_lt_length_iff.2 hmm
  have hkg := idxOf_get hmm
  have hle : ∀ i, minL R ≤ back P i x := fun i => by
    obtain ⟨j, hj, e⟩ := back_per hm1 h.per i
    rw [e]
    exact minL_le (hmem j hj)
  unfold turnL
  generalize List.idxOf (minL R) R = k at *
  have hb : minL R = back P (m - 1 - k) x := by
    rw [hRg k (by omega)] at hkg
    exact (Option.some.inj hkg).symm
  refine ⟨minL R, m - 1 - k, by omega, hb, hle, ?_⟩
  rw [hb]
  apply List.ext_getElem?
  intro i
  by_cases hi : i < m
  · rw [refL_get hi, ← back_add]
    by_cases c : i + k < m
    · rw [List.getElem?_append_left (by simp; omega), List.getElem?_drop, Nat.add_comm k i, hRg _ c, show m - 1 - k + (m - i) = m + (m - 1 - (i + k)) by omega, back_add, h.per]
    · rw [List.getElem?_append_right (by simp; omega)]
      have e1 : i - (R.drop k).length = i + k - m := by simp; omega
      rw [e1, List.getElem?_take, if_pos (by omega), hRg _ (by omega), show m - 1 - (i + k - m) = m - 1 - k + (m - i) by omega]
  · rw [List.getElem?_eq_none (by simp; omega), List.getElem?_eq_none (by rw [refL_len]; omega)]
theorem keep_in (F : List Edg) : InH (F.filter keepE) := fun e he => by
  have h := (List.mem_filter.1 he).2
  unfold keepE at h
  rw [Bool.and_eq_true] at h
  have h1 := mayP_true h.1
  have h2 := mayP_true h.2
  omega
/-- How the document builds it. -/
def buildL (P : Nat → Nat) (b j : Nat) : List Nat := b :: (List.range j).map fun i => back P (j - i) b
theorem buildL_zero (P : Nat → Nat) (b : Nat) : buildL P b 0 = [b] := rfl
theorem buildL_succ (P : Nat → Nat) (b j : Nat) : buildL P b (j + 1) = [b, back P (j + 1) b] ++ (buildL P b j).drop 1 := by
  unfold buildL
  rw [List.range_succ_eq_map, List.map_cons, List.map_map]
  simp
theorem buildL_len (P : Nat → Nat) (b j : Nat) : (buildL P b j).length = j + 1 := by simp [buildL]
theorem buildL_end {P : Nat → Nat} {b m : Nat} (h1 : 1 ≤ m) (h : back P m b = b) : buildL P b (m - 1) = refL P b m := by
  obtain ⟨k, rfl⟩ : ∃ k, m = k + 1 := ⟨m - 1, by omega⟩
  unfold buildL refL
  rw [List.range_succ_eq_map, List.map_cons, List.map_map, Nat.sub_zero, h, Nat.add_sub_cancel]
  congr 1
  apply List.map_congr_left
  intro i hi
  simp
end Go.Proofs.Ytglehneaphigdaa
