/- What the functions of exacts come to: exact numbers. Each is the number itself where it is one of 64 bits. -/
import Derived.Test.YtfbipghjhngncaaDiv64
import Derived.Shelf.Spec.BitsCarry
import Derived.OwnWalk
namespace Go.Proofs.Ytfbipghjhngncaa
open Go.RowKit

/-- A number, if it has 64 bits. -/
def num64 (n : Int) : Int := if -9223372036854775808 ≤ n ∧ n ≤ 9223372036854775807 then n else 0
def err64 (n : Int) : Int := if -9223372036854775808 ≤ n ∧ n ≤ 9223372036854775807 then 0 else 10
/-- A number, and an error's number. -/
def pairV (n e : Int) : Value := .tuple #[.int .i64 n, .int .i64 e]
theorem num64_in {n : Int} (h0 : -9223372036854775808 ≤ n) (h1 : n ≤ 9223372036854775807) : num64 n = n ∧ err64 n = 0 := by simp [num64, err64, h0, h1]
theorem num64_out {n : Int} (h : ¬ (-9223372036854775808 ≤ n ∧ n ≤ 9223372036854775807)) : num64 n = 0 ∧ err64 n = 10 := by simp [num64, err64, h]

set_option maxHeartbeats 1000000 in
theorem add_any (a b : Int) (w : World) (a0 : -9223372036854775808 ≤ a) (a1 : a ≤ 9223372036854775807) (b0 : -9223372036854775808 ≤ b) (b1 : b ≤ 9223372036854775807) :
    Calls Try.prog 14 #[.int .i64 a, .int .i64 b] w fun e w' => e = .returned (pairV (num64 (a + b)) (err64 (a + b))) ∧ w' = w := by
  by_cases hin : -9223372036854775808 ≤ a + b ∧ a + b ≤ 9223372036854775807
  · obtain ⟨h0, h1⟩ := hin
    rw [(num64_in h0 h1).1, (num64_in h0 h1).2]
    by_cases hp : 0 < b
    · have hd : decide (0 < b) = true := by simpa using hp
      have hd2 : decide (a < a + b) = true := by simp; omega
      go_enter Try.func14, Try.ntmps14
      go_wp2_with fail
      go_ret2
      exact ⟨rfl, rfl⟩
    · have hd : decide (0 < b) = false := by simpa using hp
      have hd2 : decide (a < a + b) = false := by simp; omega
      go_enter Try.func14, Try.ntmps14
      go_wp2_with fail
      go_ret2
      exact ⟨rfl, rfl⟩
  · rw [(num64_out hin).1, (num64_out hin).2]
    obtain ⟨s, hs⟩ : ∃ s, IntKind.i64.wrap (a + b) = s := ⟨_, rfl⟩
    have hs' : (decide (a < s) == decide (0 < b)) = false := by
      have : (9223372036854775807 < a + b ∧ s = a + b - 18446744073709551616) ∨ (a + b < -9223372036854775808 ∧ s = a + b + 18446744073709551616) := by
        rw [IntKind.wrap_i64] at hs; omega
      rw [Bool.eq_false_iff]; intro h
      have h2 := decide_eq_decide.mp (beq_iff_eq.mp h)
      omega
    go_enter Try.func14, Try.ntmps14
    go_wp2_with fail
    go_ret2
    exact ⟨rfl, rfl⟩

set_option maxHeartbeats 1000000 in
theorem sub_any (a b : Int) (w : World) (a0 : -9223372036854775808 ≤ a) (a1 : a ≤ 9223372036854775807) (b0 : -9223372036854775808 ≤ b) (b1 : b ≤ 9223372036854775807) :
    Calls Try.prog 17 #[.int .i64 a, .int .i64 b] w fun e w' => e = .returned (pairV (num64 (a - b)) (err64 (a - b))) ∧ w' = w := by
  by_cases hin : -9223372036854775808 ≤ a - b ∧ a - b ≤ 9223372036854775807
  · obtain ⟨h0, h1⟩ := hin
    rw [(num64_in h0 h1).1, (num64_in h0 h1).2]
    by_cases hp : 0 < b
    · have hd : decide (0 < b) = true := by simpa using hp
      have hd2 : decide (a - b < a) = true := by simp; omega
      go_enter Try.func17, Try.ntmps17
      go_wp2_with fail
      go_ret2
      exact ⟨rfl, rfl⟩
    · have hd : decide (0 < b) = false := by simpa using hp
      have hd2 : decide (a - b < a) = false := by simp; omega
      go_enter Try.func17, Try.ntmps17
      go_wp2_with fail
      go_ret2
      exact ⟨rfl, rfl⟩
  · rw [(num64_out hin).1, (num64_out hin).2]
    obtain ⟨s, hs⟩ : ∃ s, IntKind.i64.wrap (a - b) = s := ⟨_, rfl⟩
    have hs' : (decide (s < a) == decide (0 < b)) = false := by
      have : (9223372036854775807 < a - b ∧ s = a - b - 18446744073709551616) ∨ (a - b < -9223372036854775808 ∧ s = a - b + 18446744073709551616) := by
        rw [IntKind.wrap_i64] at hs; omega
      rw [Bool.eq_false_iff]; intro h
      have h2 := decide_eq_decide.mp (beq_iff_eq.mp h)
      omega
    go_enter Try.func17, Try.ntmps17
    go_wp2_with fail
    go_ret2
    exact ⟨rfl, rfl⟩

theorem size_any (a : Int) (w : World) (a0 : -9223372036854775808 ≤ a) (a1 : a ≤ 9223372036854775807) :
    Calls Try.prog 50 #[.int .i64 a] w fun e w' => e = .returned (.int .u64 (a.natAbs : Int)) ∧ w' = w := by
  by_cases h : a < 0
  · have hd : decide (a < 0) = true := by simpa using h
    have hw : IntKind.u64.wrap (-IntKind.u64.wrap a) = (a.natAbs : Int) := by simp only [IntKind.wrap_u64]; omega
    go_enter Try.func50, Try.ntmps50
    go_wp2_with fail
    go_ret
    exact ⟨rfl, rfl⟩
  · have hd : decide (a < 0) = false := by simpa using h
    have hw : IntKind.u64.wrap a = (a.natAbs : Int) := by simp only [IntKind.wrap_u64]; omega
    go_enter Try.func50, Try.ntmps50
    go_wp2_with fail
    go_ret
    exact ⟨rfl, rfl⟩

theorem natAbs_small {a : Int} (a0 : -9223372036854775808 ≤ a) (a1 : a ≤ 9223372036854775807) : a.natAbs ≤ 9223372036854775808 := by omega
theorem mul_signs (a b : Int) : a * b = if (decide (a < 0) != decide (b < 0)) = true then -((a.natAbs * b.natAbs : Nat) : Int) else ((a.natAbs * b.natAbs : Nat) : Int) := by
  rw [Int.natCast_mul]
  by_cases h1 : a < 0 <;> by_cases h2 : b < 0
  · rw [if_neg (by simp [h1, h2])]; rw [show (a.natAbs : Int) = -a by omega, show (b.natAbs : Int) = -b by omega, Int.neg_mul_neg]
  · rw [if_pos (by simp [h1, h2])]; rw [show (a.natAbs : Int) = -a by omega, show (b.natAbs : Int) = b by omega, Int.neg_mul, Int.neg_neg]
  · rw [if_pos (by simp [h1, h2])]; rw [show (a.natAbs : Int) = a by omega, show (b.natAbs : Int) = -b by omega, Int.mul_neg, Int.neg_neg]
  · rw [if_neg (by simp [h1, h2])]; rw [show (a.natAbs : Int) = a by omega, show (b.natAbs : Int) = b by omega]
set_option maxHeartbeats 1000000 in
theorem mul_any (a b : Int) (w : World) (a0 : -9223372036854775808 ≤ a) (a1 : a ≤ 9223372036854775807) (b0 : -9223372036854775808 ≤ b) (b1 : b ≤ 9223372036854775807) :
    Calls Try.prog 19 #[.int .i64 a, .int .i64 b] w fun e w' => e = .returned (pairV (num64 (a * b)) (err64 (a * b))) ∧ Below w.heap.size w w' := by
  have hm := mul_signs a b
  have ha := natAbs_small a0 a1
  have hb := natAbs_small b0 b1
  obtain ⟨m, hme⟩ : ∃ m, m = a.natAbs * b.natAbs := ⟨_, rfl⟩
  rw [← hme] at hm
  obtain ⟨below, hbl⟩ : ∃ c : Bool, (!(decide (a < 0) == decide (b < 0))) = c := ⟨_, rfl⟩
  rw [show (decide (a < 0) != decide (b < 0)) = below from hbl] at hm
  have HM := Lib.hid hm
  have HME := Lib.hid hme
  clear hm hme
  go_enter Try.func19, Try.ntmps19
  go_wp2_with fail
  refine (size_any a _ a0 a1).mono ?_
  rintro e w2 ⟨rfl, rfl⟩
  go_wp2_with fail
  refine (size_any b _ b0 b1).mono ?_
  rintro e w2 ⟨rfl, rfl⟩
  go_wp2_with fail
  refine (Try.bits_Mul64 a.natAbs b.natAbs (by omega) (by omega) _).mono ?_
  rintro e w2 ⟨rfl, rfl⟩
  rw [← HME.out]
  have hlo1 : m % 18446744073709551616 < 18446744073709551616 := Nat.mod_lt _ (by omega)
  have hml := Nat.div_add_mod m 18446744073709551616
  generalize hhi : m / 18446744073709551616 = hi at *
  generalize hlo : m % 18446744073709551616 = lo at *
  clear hhi hlo
  by_cases hp : 0 < hi
  · have hd : decide (0 < (hi : Int)) = true := by simpa using hp
    have ho := num64_out (n := a * b) (by rw [HM.out]; split <;> omega)
    cases below
    · go_wp2_with fail
      go_ret2
      rw [ho.1, ho.2]
      first | exact ⟨rfl, Below.refl _ _⟩ | exact ⟨rfl, below_drewN (Below.refl _ _) _⟩
    · go_wp2_with fail
      go_ret2
      rw [ho.1, ho.2]
      first | exact ⟨rfl, Below.refl _ _⟩ | exact ⟨rfl, below_drewN (Below.refl _ _) _⟩
  · have hd : decide (0 < (hi : Int)) = false := by simp; omega
    obtain rfl : lo = m := by omega
    clear hml
    cases below
    · by_cases hg : 9223372036854775807 < lo
      · have ho := num64_out (n := a * b) (by rw [HM.out]; simp <;> omega)
        have hd2 : decide (9223372036854775807 < (lo : Int)) = true := by simp; omega
        go_wp2_with fail
        go_ret2
        rw [ho.1, ho.2]
        first | exact ⟨rfl, Below.refl _ _⟩ | exact ⟨rfl, below_drewN (Below.refl _ _) _⟩
      · have ho := num64_in (n := a * b) (by rw [HM.out]; simp <;> omega) (by rw [HM.out]; simp <;> omega)
        have hd2 : decide (9223372036854775807 < (lo : Int)) = false := by simp; omega
        go_wp2_with fail
        go_ret2
        rw [ho.1, ho.2, HM.out]
        first | exact ⟨rfl, Below.refl _ _⟩ | exact ⟨rfl, below_drewN (Below.refl _ _) _⟩
    · by_cases hg : 9223372036854775808 < lo
      · have ho := num64_out (n := a * b) (by rw [HM.out]; simp <;> omega)
        have hd2 : decide (9223372036854775808 < (lo : Int)) = true := by simp; omega
        go_wp2_with fail
        go_ret2
        rw [ho.1, ho.2]
        first | exact ⟨rfl, Below.refl _ _⟩ | exact ⟨rfl, below_drewN (Below.refl _ _) _⟩
      · have ho := num64_in (n := a * b) (by rw [HM.out]; simp <;> omega) (by rw [HM.out]; simp <;> omega)
        have hd2 : decide (9223372036854775808 < (lo : Int)) = false := by simp; omega
        have hw : IntKind.i64.wrap (IntKind.u64.wrap (-(lo : Int))) = -(lo : Int) := by rw [IntKind.wrap_i64, IntKind.wrap_u64]; omega
        go_wp2_with fail
        go_ret2
        rw [ho.1, ho.2, HM.out]
        first | exact ⟨rfl, Below.refl _ _⟩ | exact ⟨rfl, below_drewN (Below.refl _ _) _⟩

def badBy (a num den : Int) : Prop := a < 0 ∨ num < 0 ∨ den < 1
instance (a num den : Int) : Decidable (badBy a num den) := by unfold badBy; infer_instance
def downN (a num den : Int) : Int := if badBy a num den then 0 else num64 (a * num / den)
def downE (a num den : Int) : Int := if badBy a num den then 1 else err64 (a * num / den)
def leftOf (q r : Int) : Int := if q ≤ 9223372036854775807 then r else 0
theorem leftOf_in {q r : Int} (h : q ≤ 9223372036854775807) : leftOf q r = r := if_pos h
theorem leftOf_out {q r : Int} (h : ¬ q ≤ 9223372036854775807) : leftOf q r = 0 := if_neg h
def leftN (a num den : Int) : Int := if badBy a num den then 0 else leftOf (a * num / den) (a * num % den)
/-- Raised. -/
def raised (n d : Int) : Int := if n % d = 0 then n / d else n / d + 1
def upN (a num den : Int) : Int := if badBy a num den then 0 else num64 (raised (a * num) den)
def upE (a num den : Int) : Int := if badBy a num den then 1 else err64 (raised (a * num) den)
set_option maxHeartbeats 1000000 in
theorem by_any (a num den : Int) (w : World) (a0 : -9223372036854775808 ≤ a) (a1 : a ≤ 9223372036854775807) (n0 : -9223372036854775808 ≤ num) (n1 : num ≤ 9223372036854775807) (d0 : -9223372036854775808 ≤ den) (d1 : den ≤ 9223372036854775807) :
    Calls Try.prog 54 #[.int .i64 a, .int .i64 num, .int .i64 den] w fun e w' => e = .returned (.tuple #[.int .i64 (downN a num den), .int .u64 (leftN a num den), .int .i64 (downE a num den)]) ∧ Below w.heap.size w w' := by
  by_cases hbad : badBy a num den
  · have e1 : downN a num den = 0 := by unfold downN; rw [if_pos hbad]
    have e2 : downE a num den = 1 := by unfold downE; rw [if_pos hbad]
    have e3 : leftN a num den = 0 := by unfold leftN; rw [if_pos hbad]
    rw [e1, e2, e3]
    have hb : a < 0 ∨ num < 0 ∨ den < 1 := hbad
    clear e1 e2 e3 hbad
    by_cases h1 : a < 0
    · have k1 : decide (a < 0) = true := by simpa using h1
      clear hb
      go_enter Try.func54, Try.ntmps54
      go_wp2_with fail
      go_ret3
      first | exact ⟨rfl, Below.refl _ _⟩ | exact ⟨rfl, below_drewN (Below.refl _ _) _⟩
    · have k1 : decide (a < 0) = false := by simpa using h1
      by_cases h2 : num < 0
      · have k2 : decide (num < 0) = true := by simpa using h2
        clear hb
        go_enter Try.func54, Try.ntmps54
        go_wp2_with fail
        go_ret3
        first | exact ⟨rfl, Below.refl _ _⟩ | exact ⟨rfl, below_drewN (Below.refl _ _) _⟩
      · have k2 : decide (num < 0) = false := by simpa using h2
        have k3 : decide (den < 1) = true := by simp; omega
        clear hb
        go_enter Try.func54, Try.ntmps54
        go_wp2_with fail
        go_ret3
        first | exact ⟨rfl, Below.refl _ _⟩ | exact ⟨rfl, below_drewN (Below.refl _ _) _⟩
  · have h1 : 0 ≤ a ∧ 0 ≤ num ∧ 1 ≤ den := by unfold badBy at hbad; omega
    obtain ⟨h1, h2, h3⟩ := h1
    have k1 : decide (a < 0) = false := by simp; omega
    have k2 : decide (num < 0) = false := by simp; omega
    have k3 : decide (den < 1) = false := by simp; omega
    have e1 : downN a num den = num64 (a * num / den) := by unfold downN; rw [if_neg hbad]
    have e2 : downE a num den = err64 (a * num / den) := by unfold downE; rw [if_neg hbad]
    have e3 : leftN a num den = leftOf (a * num / den) (a * num % den) := by unfold leftN; rw [if_neg hbad]
    rw [e1, e2, e3]
    clear e1 e2 e3 hbad
    obtain ⟨A, rfl⟩ : ∃ A : Nat, a = A := ⟨a.toNat, by omega⟩
    obtain ⟨B, rfl⟩ : ∃ A : Nat, num = A := ⟨num.toNat, by omega⟩
    obtain ⟨D, rfl⟩ : ∃ A : Nat, den = A := ⟨den.toNat, by omega⟩
    rw [show (A : Int) * B / D = ((A * B / D : Nat) : Int) by simp, show (A : Int) * B % D = ((A * B % D : Nat) : Int) by simp]
    obtain ⟨q, hqd⟩ : ∃ q, A * B / D = q := ⟨_, rfl⟩
    obtain ⟨r, hrd⟩ : ∃ r, A * B % D = r := ⟨_, rfl⟩
    rw [hqd, hrd]
    have HQD := Lib.hid hqd
    have HRD := Lib.hid hrd
    clear hqd hrd
    have hml := Nat.div_add_mod (A * B) 18446744073709551616
    have hlo1 : A * B % 18446744073709551616 < 18446744073709551616 := Nat.mod_lt _ (by omega)
    generalize hhi : A * B / 18446744073709551616 = hi at *
    generalize hlo : A * B % 18446744073709551616 = lo at *
    have HL := Lib.hid hml
    have HHI := Lib.hid hhi
    have HLO := Lib.hid hlo
    clear hml hhi hlo
    go_enter Try.func54, Try.ntmps54
    go_wp2_with fail
    refine (Try.bits_Mul64 A B (by omega) (by omega) _).mono ?_
    rintro e w2 ⟨rfl, rfl⟩
    rw [HHI.out, HLO.out]
    by_cases hge : D ≤ hi
    · have k4 : decide ((D : Int) ≤ hi) = true := by simpa using hge
      have hq : ¬ (q : Int) ≤ 9223372036854775807 := by
        have : 18446744073709551616 ≤ q := by
          rw [← HQD.out]
          rw [Nat.le_div_iff_mul_le (by omega)]
          have := Nat.mul_le_mul_left 18446744073709551616 hge
          have := HL.out
          omega
        omega
      have ho := num64_out (n := (q : Int)) (by omega)
      have HO := Lib.hid ho
      clear ho
      go_wp2_with fail
      go_ret3
      rw [HO.out.1, HO.out.2, leftOf_out (by omega)]
      first | exact ⟨rfl, Below.refl _ _⟩ | exact ⟨rfl, below_drewN (Below.refl _ _) _⟩
    · have k4 : decide ((D : Int) ≤ hi) = false := by simp; omega
      have hdv := div64_any hi lo D w2 (by omega) (by omega) hlo1
      rw [show hi * 18446744073709551616 + lo = A * B by have := HL.out; omega, HQD.out, HRD.out] at hdv
      go_wp2_with fail
      refine hdv.mono ?_
      rintro e w3 ⟨rfl, hb3⟩
      by_cases hq : q ≤ 9223372036854775807
      · have ho := num64_in (n := (q : Int)) (by omega) (by omega)
        have k5 : decide (9223372036854775807 < (q : Int)) = false := by simp; omega
        have HO := Lib.hid ho
        clear ho
        go_wp2_with fail
        go_ret3
        rw [HO.out.1, HO.out.2, leftOf_in (by omega)]
        exact ⟨rfl, hb3⟩
      · have ho := num64_out (n := (q : Int)) (by omega)
        have k5 : decide (9223372036854775807 < (q : Int)) = true := by simp; omega
        have HO := Lib.hid ho
        clear ho
        go_wp2_with fail
        go_ret3
        rw [HO.out.1, HO.out.2, leftOf_out (by omega)]
        exact ⟨rfl, hb3⟩

theorem down_any (a num den : Int) (w : World) (a0 : -9223372036854775808 ≤ a) (a1 : a ≤ 9223372036854775807) (n0 : -9223372036854775808 ≤ num) (n1 : num ≤ 9223372036854775807) (d0 : -9223372036854775808 ≤ den) (d1 : den ≤ 9223372036854775807) :
    Calls Try.prog 26 #[.int .i64 a, .int .i64 num, .int .i64 den] w fun e w' => e = .returned (pairV (downN a num den) (downE a num den)) ∧ Below w.heap.size w w' := by
  go_enter Try.func26, Try.ntmps26
  go_wp2_with fail
  refine (by_any a num den _ a0 a1 n0 n1 d0 d1).mono ?_
  rintro e w1 ⟨rfl, hb⟩
  go_wp2_with fail
  go_ret2
  exact ⟨rfl, hb⟩

theorem raised_left {n d : Int} (h : n % d = 0) : raised n d = n / d := by simp [raised, h]
theorem raised_over {n d : Int} (h : ¬ n % d = 0) : raised n d = n / d + 1 := by simp [raised, h]
theorem div_nonneg {a num den : Int} (hb : ¬ badBy a num den) : 0 ≤ a * num / den := by
  unfold badBy at hb
  exact Int.ediv_nonneg (Int.mul_nonneg (by omega) (by omega)) (by omega)
theorem upNE {a num den : Int} (hb : ¬ badBy a num den) (hq : ¬ a * num / den ≤ 9223372036854775807) : upN a num den = 0 ∧ upE a num den = 10 ∧ downN a num den = 0 ∧ downE a num den = 10 ∧ leftN a num den = 0 := by
  have hr : a * num / den ≤ raised (a * num) den := by unfold raised; split <;> omega
  have ho := num64_out (n := raised (a * num) den) (by omega)
  have ho2 := num64_out (n := a * num / den) (by omega)
  unfold upN upE downN downE leftN
  simp only [if_neg hb, leftOf_out hq, ho.1, ho.2, ho2.1, ho2.2]
  trivial
theorem upNI {a num den : Int} (hb : ¬ badBy a num den) (hq : a * num / den ≤ 9223372036854775807) : downN a num den = a * num / den ∧ downE a num den = 0 ∧ leftN a num den = a * num % den := by
  have h0 := div_nonneg hb
  have ho2 := num64_in (n := a * num / den) (by omega) (by omega)
  unfold downN downE leftN
  simp only [if_neg hb, leftOf_in hq, ho2.1, ho2.2]
  trivial
set_option maxHeartbeats 1000000 in
theorem up_any (a num den : Int) (w : World) (a0 : -9223372036854775808 ≤ a) (a1 : a ≤ 9223372036854775807) (n0 : -9223372036854775808 ≤ num) (n1 : num ≤ 9223372036854775807) (d0 : -9223372036854775808 ≤ den) (d1 : den ≤ 9223372036854775807) :
    Calls Try.prog 28 #[.int .i64 a, .int .i64 num, .int .i64 den] w fun e w' => e = .returned (pairV (upN a num den) (upE a num den)) ∧ Below w.heap.size w w' := by
  go_enter Try.func28, Try.ntmps28
  go_wp2_with fail
  refine (by_any a num den _ a0 a1 n0 n1 d0 d1).mono ?_
  rintro e w1 ⟨rfl, hb⟩
  by_cases hbad : badBy a num den
  · rw [show downN a num den = 0 by unfold downN; rw [if_pos hbad], show downE a num den = 1 by unfold downE; rw [if_pos hbad], show leftN a num den = 0 by unfold leftN; rw [if_pos hbad]]
    have HB := Lib.hid hbad
    clear hbad
    go_wp2_with fail
    go_ret2
    rw [show upN a num den = 0 by unfold upN; rw [if_pos HB.out], show upE a num den = 1 by unfold upE; rw [if_pos HB.out]]
    exact ⟨rfl, hb⟩
  · by_cases hq : a * num / den ≤ 9223372036854775807
    · have hi := upNI hbad hq
      rw [hi.1, hi.2.1, hi.2.2]
      clear hi
      have h0 := div_nonneg hbad
      have hm0 : 0 ≤ a * num % den := Int.emod_nonneg _ (by unfold badBy at hbad; omega)
      have hU : upN a num den = num64 (raised (a * num) den) ∧ upE a num den = err64 (raised (a * num) den) := by unfold upN upE; rw [if_neg hbad, if_neg hbad]; exact ⟨rfl, rfl⟩
      have HU := Lib.hid hU
      have HB := Lib.hid hbad
      clear hU hbad
      obtain ⟨q, hqq⟩ : ∃ q, q = a * num / den := ⟨_, rfl⟩
      obtain ⟨r, hr⟩ : ∃ r, r = a * num % den := ⟨_, rfl⟩
      rw [← hqq, ← hr]
      rw [← hqq] at hq h0
      rw [← hr] at hm0
      have HQ := Lib.hid hqq
      have HR := Lib.hid hr
      clear hqq hr
      by_cases hz : r = 0
      · subst hz
        go_wp2_with fail
        go_ret2
        rw [HU.out.1, HU.out.2, raised_left HR.out.symm, ← HQ.out, (num64_in (by omega) hq).1, (num64_in (by omega) hq).2]
        exact ⟨rfl, hb⟩
      · have k : decide (0 < r) = true := by simp; omega
        go_wp2_with fail
        refine (add_any q 1 _ (by omega) (by omega) (by omega) (by omega)).mono ?_
        rintro e w2 ⟨rfl, rfl⟩
        go_wp2_with (unfold pairV)
        go_ret2
        rw [HU.out.1, HU.out.2, raised_over (by rw [← HR.out]; exact hz), ← HQ.out]
        exact ⟨rfl, hb⟩
    · have hi := upNE hbad hq
      rw [hi.2.2.1, hi.2.2.2.1, hi.2.2.2.2]
      have HI := Lib.hid hi
      clear hi hbad hq
      go_wp2_with fail
      go_ret2
      rw [HI.out.1, HI.out.2.1]
      exact ⟨rfl, hb⟩
end Go.Proofs.Ytfbipghjhngncaa
