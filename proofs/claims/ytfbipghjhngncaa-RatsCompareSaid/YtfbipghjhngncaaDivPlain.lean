/- The plain arithmetic of a division of 128 bits by 64. No program in sight. -/
import Derived.WalkKit
namespace Go.Proofs.Ytfbipghjhngncaa

/-- What is known of a trial digit q, and what is left of the upper half, r, against the true digit Q. -/
structure Trial (U a y1 y0 Q q r : Int) : Prop where
  q0 : 0 ≤ q
  qle : q ≤ 4294967297
  r0 : 0 ≤ r
  rlt : r < 4294967296
  sum : U = q * y1 + r
  ge : Q ≤ q
theorem mulB (q y1 y0 : Int) : q * (y1 * 4294967296 + y0) = (q * y1) * 4294967296 + q * y0 := by
  rw [Int.mul_add, Int.mul_assoc]
/-- q is too great just where q * y0 > B * r + a. -/
theorem trial_cmp {U a y1 y0 q r : Int} (hs : U = q * y1 + r) : U * 4294967296 + a - q * (y1 * 4294967296 + y0) = 4294967296 * r + a - q * y0 := by
  rw [mulB, hs, Int.add_mul]; omega
theorem digit_le {n y q Q : Int} (hy : 0 < y) (hQ : Q = n / y) : Q ≤ q ↔ n - q * y < y := by
  subst hQ
  constructor
  · intro h
    have h1 := Int.emod_lt_of_pos n hy
    have h2 := Int.mul_ediv_add_emod n y
    have h3 : (n / y) * y ≤ q * y := Int.mul_le_mul_of_nonneg_right h (Int.le_of_lt hy)
    rw [Int.mul_comm] at h2
    omega
  · intro h
    have : n / y < q + 1 := Int.ediv_lt_of_lt_mul hy (by rw [Int.add_mul]; omega)
    omega
theorem le_digit {n y q Q : Int} (hy : 0 < y) (hQ : Q = n / y) : q ≤ Q ↔ q * y ≤ n := by
  subst hQ; exact Int.le_ediv_iff_mul_le hy
/-- The first trial. -/
theorem trial_first {U a y1 y0 Q : Int} (hy1 : 2147483648 ≤ y1) (hy1' : y1 < 4294967296) (hy0 : 0 ≤ y0) (hy0' : y0 < 4294967296) (hU : 0 ≤ U) (hUy : U < y1 * 4294967296 + y0) (ha : 0 ≤ a) (ha' : a < 4294967296)
    (hQ : Q = (U * 4294967296 + a) / (y1 * 4294967296 + y0)) : Trial U a y1 y0 Q (U / y1) (U - U / y1 * y1) := by
  have h1 := Int.emod_lt_of_pos U (b := y1) (by omega)
  have h0 := Int.emod_nonneg U (b := y1) (by omega)
  have h2 := Int.mul_ediv_add_emod U y1
  rw [Int.mul_comm] at h2
  have hq0 : 0 ≤ U / y1 := Int.ediv_nonneg hU (by omega)
  refine ⟨hq0, ?_, by omega, by omega, by omega, ?_⟩
  · have : U / y1 < 4294967298 := Int.ediv_lt_of_lt_mul (by omega) (by omega)
    omega
  · rw [digit_le (by omega) hQ, trial_cmp (r := U - U / y1 * y1) (by omega)]
    have : 0 ≤ U / y1 * y0 := Int.mul_nonneg hq0 hy0
    omega
/-- A trial that is too great is one less. -/
theorem trial_next {U a y1 y0 Q q r : Int} (h : Trial U a y1 y0 Q q r) (hy1 : 2147483648 ≤ y1) (hy1' : y1 < 4294967296) (hy0 : 0 ≤ y0) (hy0' : y0 < 4294967296) (hU : 0 ≤ U) (hUy : U < y1 * 4294967296 + y0) (ha : 0 ≤ a) (ha' : a < 4294967296)
    (hQ : Q = (U * 4294967296 + a) / (y1 * 4294967296 + y0)) (hgt : 4294967296 ≤ q ∨ 4294967296 * r + a < q * y0) :
    Q ≤ q - 1 ∧ 1 ≤ q ∧ U = (q - 1) * y1 + (r + y1) := by
  have hlt : Q < q := by
    rcases hgt with h1 | h1
    · have : Q < 4294967296 := by
        rw [hQ]
        exact Int.ediv_lt_of_lt_mul (by omega) (by
          have : (U + 1) * 4294967296 ≤ (y1 * 4294967296 + y0) * 4294967296 := Int.mul_le_mul_of_nonneg_right (by omega) (by omega)
          omega)
      omega
    · have h2 := trial_cmp (a := a) (y0 := y0) h.sum
      have h3 : ¬ q ≤ Q := by
        rw [le_digit (by omega) hQ]; omega
      omega
  have hQ0 : 0 ≤ Q := by rw [hQ]; exact Int.ediv_nonneg (by omega) (by omega)
  refine ⟨by omega, by omega, ?_⟩
  rw [Int.sub_mul, h.sum]; omega
theorem trial_step {U a y1 y0 Q q r : Int} (h : Trial U a y1 y0 Q q r) (hQq : Q ≤ q - 1) (h1 : 1 ≤ q) (hs : U = (q - 1) * y1 + (r + y1)) (hy1 : 2147483648 ≤ y1) (hr : r + y1 < 4294967296) : Trial U a y1 y0 Q (q - 1) (r + y1) :=
  ⟨by omega, by have := h.qle; omega, by have := h.r0; omega, hr, hs, hQq⟩
/-- Where the trials end, q is the digit. -/
theorem trial_end {U a y1 y0 Q q r : Int} (hs : U = q * y1 + r) (hge : Q ≤ q) (hy1 : 2147483648 ≤ y1) (hy0 : 0 ≤ y0)
    (hQ : Q = (U * 4294967296 + a) / (y1 * 4294967296 + y0)) (hle : q * y0 ≤ 4294967296 * r + a) : q = Q := by
  have : q ≤ Q := by
    rw [le_digit (by omega) hQ]
    have := trial_cmp (a := a) (y0 := y0) hs
    omega
  omega
theorem trial_break {U a y1 y0 Q q r : Int} (hs : U = (q - 1) * y1 + (r + y1)) (hge : Q ≤ q - 1) (hq : q ≤ 4294967297) (hq1 : 1 ≤ q) (hy1 : 2147483648 ≤ y1) (hy0 : 0 ≤ y0) (hy0' : y0 < 4294967296) (ha : 0 ≤ a)
    (hQ : Q = (U * 4294967296 + a) / (y1 * 4294967296 + y0)) (hr : 4294967296 ≤ r + y1) : q - 1 = Q := by
  refine trial_end hs hge hy1 hy0 hQ ?_
  have : (q - 1) * y0 ≤ (q - 1) * 4294967295 := Int.mul_le_mul_of_nonneg_left (by omega) (by omega)
  omega
/-- What is left behind a digit. -/
theorem digit_left {n y Q : Int} (hQ : Q = n / y) : n - Q * y = n % y := by
  have := Int.mul_ediv_add_emod n y
  rw [Int.mul_comm] at this
  subst hQ; omega
/-- Two digits are the quotient. -/
theorem two_digits (U V1 V0 y : Int) (hy : 0 < y) :
    (U * 4294967296 + V1) / y * 4294967296 + (((U * 4294967296 + V1) % y) * 4294967296 + V0) / y = (U * 18446744073709551616 + (V1 * 4294967296 + V0)) / y ∧
    (((U * 4294967296 + V1) % y) * 4294967296 + V0) % y = (U * 18446744073709551616 + (V1 * 4294967296 + V0)) % y := by
  have h := Int.mul_ediv_add_emod (U * 4294967296 + V1) y
  generalize (U * 4294967296 + V1) / y = Q at *
  generalize (U * 4294967296 + V1) % y = R at *
  have e : U * 18446744073709551616 + (V1 * 4294967296 + V0) = (R * 4294967296 + V0) + y * (Q * 4294967296) := by
    rw [← Int.mul_assoc]; omega
  rw [e, Int.add_mul_ediv_left _ _ (by omega), Int.add_mul_emod_self_left]
  exact ⟨by omega, rfl⟩
/-- Both sides a power of two greater. -/
theorem scaled (n y p : Int) (hp : 0 < p) : (n * p) / (y * p) = n / y ∧ (n * p) % (y * p) = (n % y) * p :=
  ⟨Int.mul_ediv_mul_of_pos_left n y hp, by rw [Int.emod_def, Int.mul_ediv_mul_of_pos_left n y hp, Int.emod_def, Int.sub_mul, Int.mul_assoc, Int.mul_assoc, Int.mul_comm p]⟩
end Go.Proofs.Ytfbipghjhngncaa
