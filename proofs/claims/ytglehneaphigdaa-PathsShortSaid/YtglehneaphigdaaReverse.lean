/- slices.Reverse of parties. -/
import Derived.Test.YtglehneaphigdaaParty
import Derived.Test.YtglehneaphigdaaHeapEarly
namespace Go.Proofs.Ytglehneaphigdaa
open Go.RowKit
set_option linter.unusedSimpArgs false
set_option linter.unusedVariables false
/-- A block that begins with these parties. -/
def pc (L : List Nat) (r : List Value) : Array Value := (L.map pv ++ r).toArray
theorem pc_sz (L : List Nat) (r : List Value) : (pc L r).size = L.length + r.length := by simp [pc]
theorem pc_get {L : List Nat} {r : List Value} {k x : Nat} (h : L[k]? = some x) : (pc L r)[k]? = some (.int .u8 (x : Int)) := by
  obtain ⟨hk, hx⟩ := List.getElem?_eq_some_iff.1 h
  unfold pc
  rw [List.getElem?_toArray, List.getElem?_append_left (by simpa using hk), List.getElem?_map, h]
  rfl
theorem pc_set {L : List Nat} {r : List Value} {k : Nat} (x : Nat) (h : k < L.length) : (pc L r).setIfInBounds k (.int .u8 (x : Int)) = pc (L.set k x) r := by
  unfold pc
  rw [List.setIfInBounds_toArray, List.set_append_left _ _ (by simpa using h)]
  congr 2
  rw [List.map_set]
  rfl
/-- Amid the turning: i from each end are changed. -/
def Turned (L M : List Nat) (i : Nat) : Prop := M.length = L.length ∧ ∀ k, k < L.length → M[k]? = if k < i ∨ L.length < k + 1 + i then L[L.length - 1 - k]? else L[k]?
theorem Turned.start (L : List Nat) : Turned L L 0 := ⟨rfl, fun k hk => by rw [if_neg (by omega)]⟩
theorem Turned.low {L M : List Nat} {i : Nat} (h : Turned L M i) (hi : i + i + 1 < L.length) : M[i]? = L[i]? := by
  rw [h.2 i (by omega), if_neg (by omega)]
theorem Turned.high {L M : List Nat} {i : Nat} (h : Turned L M i) (hi : i + i + 1 < L.length) : M[L.length - 1 - i]? = L[L.length - 1 - i]? := by
  rw [h.2 _ (by omega), if_neg (by omega)]
theorem Turned.step {L M : List Nat} {i x y : Nat} (h : Turned L M i) (hi : i + i + 1 < L.length) (hx : L[i]? = some x) (hy : L[L.length - 1 - i]? = some y) : Turned L ((M.set i y).set (L.length - 1 - i) x) (i + 1) := by
  refine ⟨by simp [h.1], fun k hk => ?_⟩
  by_cases e1 : k = L.length - 1 - i
  · subst e1
    rw [List.getElem?_set_self (by simp [h.1]; omega), if_pos (by omega), show L.length - 1 - (L.length - 1 - i) = i by omega, hx]
  · rw [List.getElem?_set_ne (Ne.symm e1)]
    by_cases e2 : k = i
    · subst e2
      rw [List.getElem?_set_self (by rw [h.1]; omega), if_pos (by omega), hy]
    · rw [List.getElem?_set_ne (Ne.symm e2), h.2 k hk]
      by_cases e3 : k < i ∨ L.length < k + 1 + i
      · rw [if_pos e3, if_pos (by omega)]
      · rw [if_neg e3, if_neg (by omega)]
theorem Turned.done {L M : List Nat} {i : Nat} (h : Turned L M i) (hi : L.length ≤ i + i + 1) : M = L.reverse := by
  apply List.ext_getElem?
  intro k
  by_cases hk : k < L.length
  · rw [h.2 k hk, List.getElem?_reverse hk]
    by_cases e : k < i ∨ L.length < k + 1 + i
    · rw [if_pos e]
    · rw [if_neg e, show L.length - 1 - k = k by omega]
  · rw [List.getElem?_eq_none (by rw [h.1]; omega), List.getElem?_eq_none (by simp; omega)]
structure RevLoop (W : World) (l : List Thing) (g : Nat) (L : List Nat) (r : List Value) (vi vj : Value) (wr : World) : Prop where
  out : ∃ (i : Nat) (M : List Nat), i + i ≤ L.length ∧ vi = .int .i64 (i : Int) ∧ vj = .int .i64 ((L.length : Int) - 1 - i) ∧ Turned L M i ∧ Heap W (Cel g (pc M r) 33 :: l) wr
section
variable {W w : World} {l : List Thing}
set_option maxRecDepth 100000
set_option maxHeartbeats 2000000
theorem reverse_H (g n c : Nat) (L : List Nat) (r : List Value) (hl : L.length = n) (hn : n ≤ 1000000) (H : Heap W (Cel g (pc L r) 33 :: l) w) :
    Calls Try.prog 59 #[.slice (some ⟨g, 0, none⟩) n c] w fun e w' => e = .returned (.tuple #[]) ∧ Heap W (Cel g (pc L.reverse r) 33 :: l) w' := by
  subst hl
  go_enter Try.func59, Try.ntmps59
  go_wp2_with (go_skip)
  have H0 := H
  clear H
  go_loopw [2, 3] (fun vi vj wr => RevLoop W l g L r vi vj wr) (fun vi _ _ => L.length - (intOf vi).toNat)
  case atStart => exact ⟨0, L, Nat.zero_le _, rfl, by simp, Turned.start L, H0⟩
  case round =>
    obtain ⟨i, M, hi, rfl, rfl, hT, H'⟩ := hrel.out
    clear H0 hrel
    have H := H'
    clear H'
    by_cases hlt : i + i + 1 < L.length
    · obtain ⟨j, hj⟩ : ∃ j : Nat, j + i + 1 = L.length := ⟨L.length - 1 - i, by omega⟩
      have ej : L.length - 1 - i = j := by omega
      have h0 : i < L.length := by omega
      have h1 : j < L.length := by omega
      have hx : L[i]? = some L[i] := List.getElem?_eq_getElem h0
      have hy : L[j]? = some L[j] := List.getElem?_eq_getElem h1
      generalize L[i] = x at *
      generalize L[j] = y at *
      have HX := Lib.hid ((hT.low hlt).trans hx)
      have HY := Lib.hid (show M[j]? = some y by have := hT.high hlt; rw [ej] at this; exact this.trans hy)
      have HS := Lib.hid (show Turned L ((M.set i y).set j x) (i + 1) by have := hT.step hlt hx (by rw [ej]; exact hy); rw [ej] at this; exact this)
      have HM := Lib.hid hT.1
      clear hT hx hy ej
      have hj2 : (L.length : Int) - 1 - (i : Int) = (j : Int) := by omega
      rw [hj2]
      clear hj2
      have hn2 : j < L.length := h1
      go_wp2_with (go_skip)
      refine wp_region_E [13, 15] [0, 1, 2, 3, 4, 5, 6, 7, 8, 9, 10, 11, 12, 13, 14, 15] (fun _ => True) H (by kernel_rfl) (by kernel_rfl) ?_
      iterate 7 (apply wpE_step; (· rfl); (· rfl); (· rfl); (· exact Nat.le_of_ble_eq_true rfl); (· intro l0 _ w0 H0; (first | go_big_quiet_skip | go_big_quiet_step (fail)); (refine wpQuiet_nil ?_); (simp only [Array.getD_eq_getD_getElem?, List.getElem?_toArray, List.getElem?_cons_succ, List.getElem?_cons_zero, Option.getD_some]; rfl)); (simp only [Act.put, List.setIfInBounds_toArray, List.set_cons_zero, List.set_cons_succ]))
      (apply wpE_early; (· rfl); (· rfl); (· kernel_rfl); (· rfl); (· exact Nat.le_of_ble_eq_true rfl); (· intro w0 H0; (first | (with_reducible apply wpQ_loadCH); (· exact cell_party); (· rfl); (· rfl); (· exact List.mem_cons_self); (· exact pc_get HY.out); (simp only [Act.put, List.setIfInBounds_toArray, List.set_cons_zero, List.set_cons_succ])); (refine wpQuiet_nil ?_); (simp only [Array.getD_eq_getD_getElem?, List.getElem?_toArray, List.getElem?_cons_succ, List.getElem?_cons_zero, Option.getD_some]; rfl)); (simp only [Act.put, List.setIfInBounds_toArray, List.set_cons_zero, List.set_cons_succ]))
      iterate 3 (apply wpE_step; (· rfl); (· rfl); (· rfl); (· exact Nat.le_of_ble_eq_true rfl); (· intro l0 _ w0 H0; (first | go_big_quiet_skip | go_big_quiet_step (fail)); (refine wpQuiet_nil ?_); (simp only [Array.getD_eq_getD_getElem?, List.getElem?_toArray, List.getElem?_cons_succ, List.getElem?_cons_zero, Option.getD_some]; rfl)); (simp only [Act.put, List.setIfInBounds_toArray, List.set_cons_zero, List.set_cons_succ]))
      (apply wpE_early; (· rfl); (· rfl); (· kernel_rfl); (· rfl); (· exact Nat.le_of_ble_eq_true rfl); (· intro w0 H0; (first | (with_reducible apply wpQ_loadCH); (· exact cell_party); (· rfl); (· rfl); (· exact List.mem_cons_self); (· exact pc_get HX.out); (simp only [Act.put, List.setIfInBounds_toArray, List.set_cons_zero, List.set_cons_succ])); (refine wpQuiet_nil ?_); (simp only [Array.getD_eq_getD_getElem?, List.getElem?_toArray, List.getElem?_cons_succ, List.getElem?_cons_zero, Option.getD_some]; rfl)); (simp only [Act.put, List.setIfInBounds_toArray, List.set_cons_zero, List.set_cons_succ]))
      (apply wpE_step; (· rfl); (· rfl); (· rfl); (· exact Nat.le_of_ble_eq_true rfl); (· intro l0 _ w0 H0; (first | go_big_quiet_skip | go_big_quiet_step (fail)); (refine wpQuiet_nil ?_); (simp only [Array.getD_eq_getD_getElem?, List.getElem?_toArray, List.getElem?_cons_succ, List.getElem?_cons_zero, Option.getD_some]; rfl)); (simp only [Act.put, List.setIfInBounds_toArray, List.set_cons_zero, List.set_cons_succ]))
      ((with_reducible apply wpE_storeI); (· exact cell_party); (· rfl); (· rfl); (· rfl); (· rfl); (· rfl); (· (repeat (first | (with_reducible exact List.mem_cons_self) | with_reducible apply List.mem_cons_of_mem))); (· (rw [pc_sz, HM.out]; omega)); (· exact pc_set _ (by rw [HM.out]; exact h0)); (· (repeat (first | (with_reducible exact Repl.here) | with_reducible apply Repl.there))); (simp only [Act.put, List.setIfInBounds_toArray, List.set_cons_zero, List.set_cons_succ]))
      (apply wpE_step; (· rfl); (· rfl); (· rfl); (· exact Nat.le_of_ble_eq_true rfl); (· intro l0 _ w0 H0; (first | go_big_quiet_skip | go_big_quiet_step (fail)); (refine wpQuiet_nil ?_); (simp only [Array.getD_eq_getD_getElem?, List.getElem?_toArray, List.getElem?_cons_succ, List.getElem?_cons_zero, Option.getD_some]; rfl)); (simp only [Act.put, List.setIfInBounds_toArray, List.set_cons_zero, List.set_cons_succ]))
      ((with_reducible apply wpE_storeI); (· exact cell_party); (· rfl); (· rfl); (· rfl); (· rfl); (· rfl); (· (repeat (first | (with_reducible exact List.mem_cons_self) | with_reducible apply List.mem_cons_of_mem))); (· (rw [pc_sz, List.length_set, HM.out]; omega)); (· exact pc_set _ (by rw [List.length_set, HM.out]; exact h1)); (· (repeat (first | (with_reducible exact Repl.here) | with_reducible apply Repl.there))); (simp only [Act.put, List.setIfInBounds_toArray, List.set_cons_zero, List.set_cons_succ]))
      (refine wpE_nil ?_; clear H; intro _ H)
      go_wp2_with (go_skip)
      refine ⟨⟨i + 1, _, by omega, by go_num, ?_, HS.out, H⟩, ?measure⟩
      · congr 1; omega
      case measure => simp [intOf]; omega
    · have HS := Lib.hid (hT.done (by omega))
      clear hT
      go_wp2_with (go_skip)
      rw [← HS.out]
      exact ⟨rfl, .tuple #[], by simp [results, show Try.f59.results = #[] from rfl], rfl, H⟩
end
end Go.Proofs.Ytglehneaphigdaa
