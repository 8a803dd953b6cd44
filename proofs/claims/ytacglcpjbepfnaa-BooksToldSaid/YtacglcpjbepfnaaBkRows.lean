/- Pages of rows: what is written where. -/
import Derived.Test.YtacglcpjbepfnaaBkApart
namespace Go.Proofs.Ytacglcpjbepfnaa
open Go.RowKit
def bkPut (xs : List Value) (k K : Nat) (m : Array Value) : List Value := xs.take (k * K) ++ m.toList ++ xs.drop (k * K + K)
theorem bkPut_len {xs : List Value} {k K : Nat} {m : Array Value} (hm : m.size = K) (h : k * K + K ≤ xs.length) : (bkPut xs k K m).length = xs.length := by
  unfold bkPut
  simp [hm]
  omega
theorem bkPut_at {xs : List Value} {k K : Nat} {m : Array Value} (hm : m.size = K) (h : k * K + K ≤ xs.length) : ((bkPut xs k K m).drop (k * K)).take K = m.toList := by
  unfold bkPut
  have h1 : (xs.take (k * K)).length = k * K := by simp; omega
  rw [List.append_assoc]
  conv => lhs; rw [← h1]
  rw [h1, List.drop_append_of_le_length (by omega), List.drop_of_length_le (by omega), List.nil_append]
  have h2 : m.toList.length = K := by simpa using hm
  rw [← h2, List.take_left]
theorem bkPut_off {xs : List Value} {k K i : Nat} {m : Array Value} (hm : m.size = K) (h : k * K + K ≤ xs.length) (hi : i ≠ k) : ((bkPut xs k K m).drop (i * K)).take K = (xs.drop (i * K)).take K := by
  unfold bkPut
  have h1 : (xs.take (k * K)).length = k * K := by simp; omega
  have h2 : m.toList.length = K := by simpa using hm
  apply List.ext_getElem?
  intro j
  rw [List.getElem?_take, List.getElem?_take]
  by_cases hj : j < K
  · rw [if_pos hj, if_pos hj, List.getElem?_drop, List.getElem?_drop]
    rcases Nat.lt_or_gt_of_ne hi with hlt | hgt
    · have h3 : i * K + K ≤ k * K := by
        have := Nat.mul_le_mul_right K (show i + 1 ≤ k from hlt)
        rw [Nat.succ_mul] at this
        exact this
      rw [List.append_assoc, List.getElem?_append_left (by omega), List.getElem?_take, if_pos (by omega)]
    · have h3 : k * K + K ≤ i * K := by
        have := Nat.mul_le_mul_right K (show k + 1 ≤ i from hgt)
        rw [Nat.succ_mul] at this
        exact this
      rw [List.append_assoc, List.getElem?_append_right (by omega), List.getElem?_append_right (by omega), List.getElem?_drop]
      congr 1
      omega
  · rw [if_neg hj, if_neg hj]
def MarksR (K : Nat) (m : Array Value) (lo hi : Nat) (xs : List Value) : Prop := ∀ i, lo ≤ i → i < hi → (xs.drop (i * K)).take K = m.toList
theorem MarksR.step {K : Nat} {m : Array Value} {lo k : Nat} {xs : List Value} (h : MarksR K m lo k xs) (hm : m.size = K) (hk : k * K + K ≤ xs.length) : MarksR K m lo (k + 1) (bkPut xs k K m) := by
  intro i h1 h2
  by_cases e : i = k
  · subst e; exact bkPut_at hm hk
  · rw [bkPut_off hm hk e]; exact h i h1 (by omega)
theorem MarksR.off {K : Nat} {m m2 : Array Value} {lo hi k : Nat} {xs : List Value} (h : MarksR K m lo hi xs) (hm : m2.size = K) (hk : k * K + K ≤ xs.length) (hh : hi ≤ k) : MarksR K m lo hi (bkPut xs k K m2) := by
  intro i h1 h2
  rw [bkPut_off hm hk (by omega)]
  exact h i h1 h2
def browR (sl : Value) (m b : Array Value) : Array Value := (sl :: (m.toList ++ b.toList)).toArray
theorem browR_g0 (sl : Value) (m b : Array Value) : (browR sl m b)[0]? = some sl := rfl
theorem browR_sz {sl : Value} {m b : Array Value} {K : Nat} (hm : m.size = K) (hb : b.size = K) : (browR sl m b).size = 1 + K + K := by
  unfold browR
  simp [hm, hb]
  omega
theorem browR_g1 {sl : Value} {m b : Array Value} {K : Nat} (hm : m.size = K) : (browR sl m b).extract 1 (1 + K) = m := by
  unfold browR
  apply Array.ext'
  have h2 : m.toList.length = K := by simpa using hm
  simp only [List.extract_toArray, List.extract_eq_take_drop, List.drop_succ_cons, List.drop_zero]
  rw [show 1 + K - 1 = m.toList.length by omega, List.take_left]
theorem browR_g2 {sl : Value} {m b : Array Value} {K : Nat} (hm : m.size = K) (hb : b.size = K) : (browR sl m b).extract (1 + K) (1 + K + K) = b := by
  unfold browR
  apply Array.ext'
  have h2 : m.toList.length = K := by simpa using hm
  have h3 : b.toList.length = K := by simpa using hb
  simp only [List.extract_toArray, List.extract_eq_take_drop]
  rw [show 1 + K = (sl :: m.toList).length by simp [hm]; omega, ← List.cons_append, List.drop_left, show (sl :: m.toList).length + K - (sl :: m.toList).length = b.toList.length by omega, List.take_length]
theorem mul_slot {k c K : Nat} (h : k < c) : k * K + K ≤ c * K := by
  have := Nat.mul_le_mul_right K (show k + 1 ≤ c from h)
  rw [Nat.succ_mul] at this
  exact this
structure GoodR (K : Nat) (T : TypeId) (m : Array Value) : Prop where
  cells : Cells K m
  neq : ∀ w, (binOp .neq T (.agg m) (.agg m)).run Try.prog w = .ok (.bool false) w
theorem GoodR.sz {K : Nat} {T : TypeId} {m : Array Value} (h : GoodR K T m) : m.size = K := h.cells.1
end Go.Proofs.Ytacglcpjbepfnaa
