/- Numbers as rows of 192 bits: what adding, taking off, shifting and dividing bit by bit come to. -/
import Derived.Test.YtfbipghjhngncaaRow
namespace Go.Proofs.Ytfbipghjhngncaa
open Go.RowKit

def bitsA (x : Nat) : Array Value := Array.ofFn (n := 192) fun i => Value.bool (x.testBit i)
theorem bitsA_size (x : Nat) : (bitsA x).size = 192 := by unfold bitsA; simp
theorem bitsA_get (x i : Nat) : (bitsA x)[i]? = if i < 192 then some (.bool (x.testBit i)) else none := by
  unfold bitsA; rw [Array.getElem?_ofFn]; split <;> rfl
theorem bitsA_cells (x : Nat) : Cells 192 (bitsA x) := by
  refine ⟨bitsA_size x, ?_⟩
  unfold bitsA
  rw [Array.all_eq_true]
  intro i hi
  simp [Value.oneCell']
theorem bitsA_congr {x y : Nat} (h : ∀ i, i < 192 → x.testBit i = y.testBit i) : bitsA x = bitsA y := by
  apply Array.ext_getElem?
  intro i
  rw [bitsA_get, bitsA_get]
  split
  · rename_i hi; rw [h i hi]
  · rfl
theorem bitsA_set {x y k : Nat} {b : Bool} (hk : k < 192) (hb : y.testBit k = b) (h : ∀ i, i ≠ k → y.testBit i = x.testBit i) : (bitsA x).setIfInBounds k (.bool b) = bitsA y := by
  apply Array.ext_getElem?
  intro i
  rw [Array.getElem?_setIfInBounds, bitsA_get, bitsA_get, bitsA_size]
  by_cases e : k = i
  · subst e; rw [if_pos rfl, if_pos hk, if_pos hk, hb]
  · rw [if_neg e]
    split
    · rw [h i (fun e' => e e'.symm)]
    · rfl
/-- One bit more of s, from below. -/
theorem bitsA_low {s k : Nat} (hk : k < 192) : (bitsA (s % 2 ^ k)).setIfInBounds k (.bool (s.testBit k)) = bitsA (s % 2 ^ (k + 1)) := by
  refine bitsA_set hk ?_ fun i hi => ?_
  · rw [Nat.testBit_mod_two_pow]; simp
  · rw [Nat.testBit_mod_two_pow, Nat.testBit_mod_two_pow]
    by_cases h : i < k
    · simp [h]; omega
    · simp [h]; omega
theorem bitsA_mod (s : Nat) : bitsA (s % 2 ^ 192) = bitsA s := bitsA_congr fun i hi => by rw [Nat.testBit_mod_two_pow]; simp [hi]
theorem bitsA_inj {x y : Nat} (hx : x < 2 ^ 192) (hy : y < 2 ^ 192) (h : bitsA x = bitsA y) : x = y := by
  apply Nat.eq_of_testBit_eq
  intro i
  by_cases hi : i < 192
  · have h1 := bitsA_get x i
    rw [h, bitsA_get, if_pos hi, if_pos hi] at h1
    simpa using h1.symm
  · rw [Nat.testBit_lt_two_pow (Nat.lt_of_lt_of_le hx (Nat.pow_le_pow_right (by omega) (by omega))), Nat.testBit_lt_two_pow (Nat.lt_of_lt_of_le hy (Nat.pow_le_pow_right (by omega) (by omega)))]

theorem bitsA_ext0 (x : Nat) : (bitsA x).extract 0 (0 + 192) = bitsA x := by
  rw [Array.extract_eq_self_of_le (by rw [bitsA_size]; omega)]
theorem bitsA_splice (x y : Nat) : splice (bitsA x) 0 (bitsA y) = bitsA y := splice_all (by rw [bitsA_size, bitsA_size])
/-- A sign, and bits. -/
def wholeA (s : Bool) (x : Nat) : Array Value := #[.bool s] ++ bitsA x
theorem wholeA_size (s : Bool) (x : Nat) : (wholeA s x).size = 193 := by unfold wholeA; simp [bitsA_size]
theorem wholeA_get (s : Bool) (x i : Nat) : (wholeA s x)[i]? = if i = 0 then some (.bool s) else if i - 1 < 192 then some (.bool (x.testBit (i - 1))) else none := by
  unfold wholeA
  rcases i with _ | i
  · rw [Array.getElem?_append_left (by simp)]; simp
  · rw [Array.getElem?_append_right (by simp)]; simp [bitsA_get]
theorem wholeA_cells (s : Bool) (x : Nat) : Cells 193 (wholeA s x) := by
  refine ⟨wholeA_size s x, ?_⟩
  unfold wholeA
  rw [Array.all_append, (bitsA_cells x).2]; simp [Value.oneCell']
theorem wholeA_ext0 (s : Bool) (x : Nat) : (wholeA s x).extract 0 (0 + 193) = wholeA s x := by
  rw [Array.extract_eq_self_of_le (by rw [wholeA_size]; omega)]
theorem wholeA_ext1 (s : Bool) (x : Nat) : (wholeA s x).extract 1 (1 + 192) = bitsA x := by
  unfold wholeA
  apply Array.ext_getElem?
  intro i
  rw [Array.getElem?_extract, bitsA_get]
  by_cases h : i < 192
  · rw [if_pos (by simp [bitsA_size]; omega), if_pos h, Array.getElem?_append_right (by simp)]
    simp [bitsA_get, h]
  · rw [if_neg (by simp [bitsA_size]; omega), if_neg h]
theorem wholeA_splice0 (s s' : Bool) (x y : Nat) : splice (wholeA s x) 0 (wholeA s' y) = wholeA s' y := splice_all (by rw [wholeA_size, wholeA_size])
theorem wholeA_splice1 (s : Bool) (x y : Nat) : splice (wholeA s x) 1 (bitsA y) = wholeA s y := by
  unfold splice wholeA
  apply Array.ext'
  simp [bitsA_size]
theorem wholeA_set {s : Bool} {x y k : Nat} {b : Bool} (h : (bitsA x).setIfInBounds k (.bool b) = bitsA y) : (wholeA s x).setIfInBounds (1 + k) (.bool b) = wholeA s y := by
  unfold wholeA
  rw [← h]
  apply Array.ext'
  simp [Nat.add_comm 1 k]

def bit (x k : Nat) : Nat := (x.testBit k).toNat
theorem bit_le (x k : Nat) : bit x k ≤ 1 := by unfold bit; cases x.testBit k <;> simp
theorem bit_div (x k : Nat) : bit x k = x / 2 ^ k % 2 := by
  unfold bit; rw [Nat.testBit_eq_decide_div_mod_eq]
  have : x / 2 ^ k % 2 < 2 := Nat.mod_lt _ (by omega)
  by_cases h : x / 2 ^ k % 2 = 1
  · simp [h]
  · have : x / 2 ^ k % 2 = 0 := by omega
    simp [this]
theorem testBit_of_bit (x k : Nat) : x.testBit k = decide (bit x k = 1) := by
  unfold bit; cases x.testBit k <;> simp
theorem mod_succ (x k : Nat) : x % 2 ^ (k + 1) = x % 2 ^ k + 2 ^ k * bit x k := by rw [bit_div, Nat.pow_succ, Nat.mod_mul]

/-- What is carried ahead of place k. -/
def carry (x y k : Nat) : Nat := (x % 2 ^ k + y % 2 ^ k) / 2 ^ k
theorem carry_zero (x y : Nat) : carry x y 0 = 0 := by unfold carry; simp [Nat.mod_one]
theorem carry_le (x y k : Nat) : carry x y k ≤ 1 := by
  unfold carry
  have h := Nat.two_pow_pos k
  have h1 := Nat.mod_lt x h
  have h2 := Nat.mod_lt y h
  have : (x % 2 ^ k + y % 2 ^ k) / 2 ^ k < 2 := by rw [Nat.div_lt_iff_lt_mul h]; omega
  omega
theorem carry_succ (x y k : Nat) : carry x y (k + 1) = (carry x y k + bit x k + bit y k) / 2 := by
  unfold carry
  have h := Nat.two_pow_pos k
  rw [mod_succ, mod_succ, Nat.pow_succ, ← Nat.div_div_eq_div_mul, show x % 2 ^ k + 2 ^ k * bit x k + (y % 2 ^ k + 2 ^ k * bit y k) = x % 2 ^ k + y % 2 ^ k + 2 ^ k * (bit x k + bit y k) by rw [Nat.mul_add]; omega, Nat.add_mul_div_left _ _ h]
  omega
theorem bit_add (x y k : Nat) : bit (x + y) k = (carry x y k + bit x k + bit y k) % 2 := by
  rw [bit_div, bit_div, bit_div]
  unfold carry
  have h := Nat.two_pow_pos k
  have h1 := Nat.div_add_mod x (2 ^ k)
  have h2 := Nat.div_add_mod y (2 ^ k)
  have e : x + y = x % 2 ^ k + y % 2 ^ k + 2 ^ k * (x / 2 ^ k + y / 2 ^ k) := by rw [Nat.mul_add]; omega
  have e2 : (x + y) / 2 ^ k = (x % 2 ^ k + y % 2 ^ k) / 2 ^ k + (x / 2 ^ k + y / 2 ^ k) := by
    conv => lhs; rw [e]
    exact Nat.add_mul_div_left _ _ h
  rw [e2]; omega

/-- What is owed ahead of place k. -/
def owed (x y k : Nat) : Nat := if x % 2 ^ k < y % 2 ^ k then 1 else 0
theorem owed_zero (x y : Nat) : owed x y 0 = 0 := by unfold owed; simp [Nat.mod_one]
theorem owed_le (x y k : Nat) : owed x y k ≤ 1 := by unfold owed; split <;> omega
theorem owed_succ (x y k : Nat) : owed x y (k + 1) = if bit x k < bit y k + owed x y k then 1 else 0 := by
  unfold owed
  have h := Nat.two_pow_pos k
  have h1 := Nat.mod_lt x h
  have h2 := Nat.mod_lt y h
  rw [mod_succ, mod_succ]
  have hx := bit_le x k
  have hy := bit_le y k
  generalize 2 ^ k = m at *
  generalize x % m = p at *
  generalize y % m = q at *
  rcases (show bit x k = 0 ∨ bit x k = 1 by omega) with e1 | e1 <;> rcases (show bit y k = 0 ∨ bit y k = 1 by omega) with e2 | e2 <;> rw [e1, e2] <;> simp only [Nat.mul_zero, Nat.mul_one] <;> (repeat' split) <;> omega
theorem bit_sub (x y k : Nat) (hxy : y ≤ x) : bit (x - y) k = (bit x k + bit y k + owed x y k) % 2 := by
  rw [bit_div, bit_div, bit_div]
  unfold owed
  have h := Nat.two_pow_pos k
  have h1 := Nat.div_add_mod x (2 ^ k)
  have h2 := Nat.div_add_mod y (2 ^ k)
  have h3 := Nat.mod_lt x h
  have h4 := Nat.mod_lt y h
  have hq := Nat.div_le_div_right (c := 2 ^ k) hxy
  generalize hm : 2 ^ k = m at *
  generalize x % m = p at *
  generalize y % m = q at *
  generalize hX : x / m = X at *
  generalize hY : y / m = Y at *
  split
  · rename_i hlt
    have hXY : Y < X := by
      rcases Nat.lt_or_ge Y X with h' | h'
      · exact h'
      · have : X = Y := by omega
        subst this; omega
    have e : x - y = (m + p - q) + m * (X - Y - 1) := by
      have e1 : m * (X - Y - 1) = m * X - m * Y - m := by rw [Nat.mul_sub, Nat.mul_sub]; simp
      have e2 : m * X ≥ m * Y + m := by
        have := Nat.mul_le_mul_left m (show Y + 1 ≤ X by omega)
        rw [Nat.mul_add, Nat.mul_one] at this; exact this
      omega
    rw [e, Nat.add_mul_div_left _ _ h, Nat.div_eq_of_lt (by omega)]; omega
  · rename_i hge
    have e : x - y = (p - q) + m * (X - Y) := by
      have e1 : m * (X - Y) = m * X - m * Y := by rw [Nat.mul_sub]
      have e2 : m * X ≥ m * Y := Nat.mul_le_mul_left m hq
      omega
    rw [e, Nat.add_mul_div_left _ _ h, Nat.div_eq_of_lt (by omega)]; omega
/-- Numbers with the same bits from k + 1 on. -/
theorem div_succ (x k : Nat) : x / 2 ^ k = 2 * (x / 2 ^ (k + 1)) + bit x k := by
  rw [bit_div, Nat.pow_succ, ← Nat.div_div_eq_div_mul]; omega
end Go.Proofs.Ytfbipghjhngncaa
