/- countinghouseref02: the greatest common divisor by taking off; rates. -/
import Derived.Test.YtfbipghjhngncaaRef01g
import Derived.Test.YtfbipghjhngncaaRats4
namespace Go.Proofs.Ytfbipghjhngncaa
open Go.RowKit
set_option linter.unusedSimpArgs false
set_option linter.unusedVariables false

theorem run_max1 {w : World} (ts : Array TypeId) (t : TypeId) (k k' : IntKind) (x y : Int) : (Builtin.max_ ts t #[.int k x, .int k' y]).run Try.prog w = .ok (.int k (max x y)) w := by
  rw [run_max_int2]; congr 2; rw [Int.max_def]; split <;> split <;> omega
attribute [local go_sem high] run_max1
/-- What is taken off. -/
theorem off_facts (A B : Nat) (hB : 1 ≤ B) (h : B < A) : 0 ≤ (B : Int) * max 1 ((A : Int) / B - 1) ∧ (B : Int) * max 1 ((A : Int) / B - 1) ≤ (A : Int) - 1 ∧ Nat.gcd ((A : Int) - (B : Int) * max 1 ((A : Int) / B - 1)).toNat B = Nat.gcd A B := by
  have e : (A : Int) / B = ((A / B : Nat) : Int) := by simp
  rw [e]
  have h1 : 1 ≤ A / B := (Nat.one_le_div_iff (by omega)).2 (by omega)
  have h2 := Nat.div_mul_le_self A B
  generalize A / B = q at *
  obtain ⟨k, hk, hk2⟩ : ∃ k : Nat, max 1 ((q : Int) - 1) = k ∧ B * k ≤ A - 1 := by
    by_cases hq : q ≤ 2
    · exact ⟨1, by omega, by omega⟩
    · refine ⟨q - 1, by omega, ?_⟩
      have : B * (q - 1) = q * B - B := by rw [Nat.mul_sub, Nat.mul_one, Nat.mul_comm]
      omega
  rw [hk]
  have e2 : (B : Int) * k = ((B * k : Nat) : Int) := by simp
  rw [e2]
  refine ⟨by omega, by omega, ?_⟩
  have e3 : ((A : Int) - ((B * k : Nat) : Int)).toNat = A - B * k := by omega
  rw [e3, Nat.gcd_comm, Nat.gcd_sub_mul_left_right (by omega), Nat.gcd_comm]
set_option maxRecDepth 100000 in
set_option maxHeartbeats 1000000 in
theorem common_ans (A B : Nat) (hA : 1 ≤ A) (hB : 1 ≤ B) (hA1 : A ≤ 9223372036854775807) (hB1 : B ≤ 9223372036854775807) : Ans 58 #[.int .i64 (A : Int), .int .i64 (B : Int)] (.int .i64 (Nat.gcd A B : Nat)) := by
  intro w
  have HG := Lib.hid (show Nat.gcd A B = Nat.gcd A B from rfl)
  generalize hg : Nat.gcd A B = g at *
  go_enter Try.func58, Try.ntmps58
  go_wp2_with fail
  go_loop [0, 1] (fun a b => ∃ x y : Nat, 1 ≤ x ∧ x ≤ A ∧ 1 ≤ y ∧ y ≤ B ∧ Hid (Nat.gcd x y = g) ∧ a = .int .i64 (x : Int) ∧ b = .int .i64 (y : Int)) (fun a b => (intOf a + intOf b).toNat)
  case atStart => exact ⟨A, B, hA, Nat.le_refl _, hB, Nat.le_refl _, Lib.hid hg, rfl, rfl⟩
  case round =>
    clear HG hg
    obtain ⟨x, y, hx, hx1, hy, hy1, HG, rfl, rfl⟩ := hrel
    rcases Nat.lt_trichotomy x y with h | rfl | h
    · have k1 : ((x : Int) != y) = true := by simp; omega
      have k2 : decide ((y : Int) < x) = false := by simp; omega
      obtain ⟨f1, f2, f3⟩ := off_facts y x hx h
      have q0 : 0 ≤ (y : Int) / x := Int.ediv_nonneg (by omega) (by omega)
      have q1 : (y : Int) / x ≤ y := Int.ediv_le_self _ (by omega)
      have F3 := Lib.hid f3
      clear f3
      go_wp2_with fail
      go_round
      case rel =>
        refine ⟨x, ((y : Int) - (x : Int) * max 1 ((y : Int) / x - 1)).toNat, hx, hx1, by omega, by omega, Lib.hid ?_, rfl, by congr 1; omega⟩
        rw [Nat.gcd_comm, F3.out, Nat.gcd_comm]; exact HG.out
      case measure =>
        have : 1 ≤ (x : Int) * max 1 ((y : Int) / x - 1) := by
          have := Int.mul_le_mul_of_nonneg_left (show (1 : Int) ≤ max 1 ((y : Int) / x - 1) by omega) (show (0 : Int) ≤ x by omega)
          omega
        simp [intOf]; omega
    · have k1 : ((x : Int) != x) = false := by simp
      have hg := HG.out
      rw [Nat.gcd_self] at hg
      subst hg
      go_wp2_with fail
      go_ret
      exact ⟨rfl, (by repeat (first | exact Ext.refl _ | refine Ext.alloc ?_ _ | refine Ext.ext ?_ _ | refine Ext.drew ?_))⟩
    · have k1 : ((x : Int) != y) = true := by simp; omega
      have k2 : decide ((y : Int) < x) = true := by simp; omega
      obtain ⟨f1, f2, f3⟩ := off_facts x y hy h
      have q0 : 0 ≤ (x : Int) / y := Int.ediv_nonneg (by omega) (by omega)
      have q1 : (x : Int) / y ≤ x := Int.ediv_le_self _ (by omega)
      have F3 := Lib.hid f3
      clear f3
      go_wp2_with fail
      go_round
      case rel =>
        refine ⟨((x : Int) - (y : Int) * max 1 ((x : Int) / y - 1)).toNat, y, by omega, by omega, hy, hy1, Lib.hid ?_, by congr 1; omega, rfl⟩
        rw [F3.out]; exact HG.out
      case measure =>
        have : 1 ≤ (y : Int) * max 1 ((x : Int) / y - 1) := by
          have := Int.mul_le_mul_of_nonneg_left (show (1 : Int) ≤ max 1 ((x : Int) / y - 1) by omega) (show (0 : Int) ≤ y by omega)
          omega
        simp [intOf]; omega
end Go.Proofs.Ytfbipghjhngncaa
