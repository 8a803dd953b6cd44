/- What is floored, times den, is a times num at most: the walk. -/
import Derived.Test.YtfbipghjhngncaaLives01
namespace Go.Proofs.Ytfbipghjhngncaa
open Go.RowKit

theorem sub64_run (x y b : Nat) (hb : b ≤ 1) (w : World) :
    (callFunc 31 #[.int .u64 x, .int .u64 y, .int .u64 b]).run Try.prog w =
      .ok (.value (.tuple #[.int .u64 (((x + 18446744073709551616 - y - b) % 18446744073709551616 : Nat) : Int), .int .u64 ((if x < y + b then 1 else 0 : Nat) : Int)])) w := by
  rw [run_callFunc_extern Try.func31 (by kernel_rfl) (by kernel_rfl) (by kernel_rfl) (e := sub64Entry) (by kernel_rfl), run_sub64 x y b hb]
  rfl

theorem bad_facts {a num den : Int} (h : badBy a num den) : downN a num den = 0 ∧ downE a num den = 1 ∧ upN a num den = 0 ∧ upE a num den = 1 := by
  unfold downN downE upN upE; simp only [if_pos h]; trivial

set_option maxRecDepth 100000 in
set_option maxHeartbeats 8000000 in
theorem exactsNear_law (a num den : Int) (w : World) (a0 : -9223372036854775808 ≤ a) (a1 : a ≤ 9223372036854775807) (n0 : -9223372036854775808 ≤ num) (n1 : num ≤ 9223372036854775807) (d0 : -9223372036854775808 ≤ den) (d1 : den ≤ 9223372036854775807) :
    Calls Try.prog 7 #[.int .i64 a, .int .i64 num, .int .i64 den] w fun e w' => e = .returned (.bool true) ∧ Below w.heap.size w w' := by
  obtain ⟨dn, hdn⟩ : ∃ x, downN a num den = x := ⟨_, rfl⟩
  obtain ⟨de, hde⟩ : ∃ x, downE a num den = x := ⟨_, rfl⟩
  obtain ⟨un, hun⟩ : ∃ x, upN a num den = x := ⟨_, rfl⟩
  obtain ⟨ue, hue⟩ : ∃ x, upE a num den = x := ⟨_, rfl⟩
  have HDN := Lib.hid hdn
  have HDE := Lib.hid hde
  have HUN := Lib.hid hun
  have HUE := Lib.hid hue
  clear hdn hde hun hue
  go_enter Try.func7, Try.ntmps7
  go_wp2_with fail
  refine (down_any a num den _ a0 a1 n0 n1 d0 d1).mono ?_
  rintro e w1 ⟨rfl, hb1⟩
  rw [HDN.out, HDE.out]
  unfold pairV
  go_wp2_with fail
  refine (up_any a num den _ a0 a1 n0 n1 d0 d1).mono ?_
  rintro e w2 ⟨rfl, hb2⟩
  rw [HUN.out, HUE.out]
  unfold pairV
  by_cases hbad : badBy a num den
  · obtain ⟨e1, e2, e3, e4⟩ := bad_facts hbad
    rw [HDN.out] at e1
    rw [HDE.out] at e2
    rw [HUN.out] at e3
    rw [HUE.out] at e4
    subst e1 e2 e3 e4
    have hb : a < 0 ∨ num < 0 ∨ den < 1 := hbad
    clear hbad HDN HDE HUN HUE
    by_cases h1 : a < 0
    · have k1 : decide (a < 0) = true := by simpa using h1
      clear hb
      go_wp2_with fail
      refine (lives01_any _).mono ?_
      rintro e w3 ⟨rfl, hb3⟩
      go_wp2_with fail
      go_ret
      exact ⟨rfl, below_trans2 (below_trans2 hb1 hb2) hb3⟩
    · have k1 : decide (a < 0) = false := by simpa using h1
      by_cases h2 : num < 0
      · have k2 : decide (num < 0) = true := by simpa using h2
        clear hb
        go_wp2_with fail
        refine (lives01_any _).mono ?_
        rintro e w3 ⟨rfl, hb3⟩
        go_wp2_with fail
        go_ret
        exact ⟨rfl, below_trans2 (below_trans2 hb1 hb2) hb3⟩
      · have k2 : decide (num < 0) = false := by simpa using h2
        have k3 : decide (den < 1) = true := by simp; omega
        clear hb
        go_wp2_with fail
        refine (lives01_any _).mono ?_
        rintro e w3 ⟨rfl, hb3⟩
        go_wp2_with fail
        go_ret
        exact ⟨rfl, below_trans2 (below_trans2 hb1 hb2) hb3⟩
  · have h1 : 0 ≤ a ∧ 0 ≤ num ∧ 1 ≤ den := by unfold badBy at hbad; omega
    obtain ⟨h1, h2, h3⟩ := h1
    have k1 : decide (a < 0) = false := by simp; omega
    have k2 : decide (num < 0) = false := by simp; omega
    have k3 : decide (den < 1) = false := by simp; omega
    obtain ⟨A, rfl⟩ : ∃ A : Nat, a = A := ⟨a.toNat, by omega⟩
    obtain ⟨B, rfl⟩ : ∃ A : Nat, num = A := ⟨num.toNat, by omega⟩
    obtain ⟨D, rfl⟩ : ∃ A : Nat, den = A := ⟨den.toNat, by omega⟩
    obtain ⟨q, hqd⟩ : ∃ q, A * B / D = q := ⟨_, rfl⟩
    obtain ⟨m, hmd⟩ : ∃ q, A * B % D = q := ⟨_, rfl⟩
    obtain ⟨n, hn⟩ : ∃ n, A * B = n := ⟨_, rfl⟩
    have hnq : n = q * D + m := by rw [← hn, ← hqd, ← hmd, Nat.mul_comm _ D]; exact (Nat.div_add_mod _ _).symm
    have hmD : m < D := by rw [← hmd]; exact Nat.mod_lt _ (by omega)
    have hqI : (A : Int) * B / D = (q : Int) := by rw [← hqd]; simp
    have hmI : (A : Int) * B % D = (m : Int) := by rw [← hmd]; simp
    obtain ⟨P, hP⟩ : ∃ P, P = q * D := ⟨_, rfl⟩
    rw [← hP] at hnq
    have hml := Nat.div_add_mod n 18446744073709551616
    have hlo1 : n % 18446744073709551616 < 18446744073709551616 := Nat.mod_lt _ (by omega)
    generalize hhi : n / 18446744073709551616 = hi at *
    generalize hlo : n % 18446744073709551616 = lo at *
    have HBAD := Lib.hid hbad
    have HQI := Lib.hid hqI
    have HMI := Lib.hid hmI
    have HNQ := Lib.hid hnq
    have HML := Lib.hid hml
    have HHI := Lib.hid hhi
    have HLO := Lib.hid hlo
    have HP := Lib.hid hP
    have HN := Lib.hid hn
    clear hbad hqI hmI hnq hml hhi hlo hP hn hqd hmd
    by_cases hq : q ≤ 9223372036854775807
    · have hD := upNI HBAD.out (by rw [HQI.out]; omega)
      rw [HQI.out, HMI.out, HDN.out, HDE.out] at hD
      obtain ⟨rfl, rfl, -⟩ := hD
      have hup : un = num64 (if m = 0 then q else q + 1) ∧ ue = err64 (if m = 0 then q else q + 1) := by
        rw [← HUN.out, ← HUE.out]
        unfold upN upE
        rw [if_neg HBAD.out, if_neg HBAD.out]
        by_cases hm : m = 0
        · rw [if_pos hm, raised_left (by rw [HMI.out]; omega), HQI.out]; exact ⟨rfl, rfl⟩
        · rw [if_neg hm, raised_over (by rw [HMI.out]; omega), HQI.out]; exact ⟨rfl, rfl⟩
      clear HDN HDE HUN HUE
      obtain ⟨high, hhigh⟩ : ∃ x, P / 18446744073709551616 = x := ⟨_, rfl⟩
      obtain ⟨low, hlow⟩ : ∃ x, P % 18446744073709551616 = x := ⟨_, rfl⟩
      have hlowb : low < 18446744073709551616 := by omega
      have hhib : hi < 18446744073709551616 := by
        rw [← HHI.out, ← HN.out]
        apply Nat.div_lt_of_lt_mul
        have := Nat.mul_le_mul (show A ≤ 9223372036854775807 by omega) (show B ≤ 9223372036854775807 by omega)
        omega
      have hhighb : high < 18446744073709551616 := by have := HNQ.out; have := HML.out; omega
      have hs1 := fun w => sub64_run lo low 0 (by omega) w
      obtain ⟨o, ho⟩ : ∃ o : Nat, (if lo < low + 0 then 1 else 0) = o := ⟨_, rfl⟩
      have ho1 : o ≤ 1 := by rw [← ho]; split <;> omega
      have hs2 := fun w => sub64_run hi high o ho1 w
      have hm1 : (lo + 18446744073709551616 - low - 0) % 18446744073709551616 = m := by have := HNQ.out; have := HML.out; omega
      have htop : (hi + 18446744073709551616 - high - o) % 18446744073709551616 = 0 := by
        have := HNQ.out
        have := HML.out
        by_cases hlt : lo < low + 0
        · rw [if_pos hlt] at ho; omega
        · rw [if_neg hlt] at ho; omega
      have hmore : (if hi < high + o then 1 else 0) = 0 := by
        have := HNQ.out
        have := HML.out
        by_cases hlt : lo < low + 0
        · rw [if_pos hlt] at ho; rw [if_neg (by omega)]
        · rw [if_neg hlt] at ho; rw [if_neg (by omega)]
      rw [hm1, ho] at hs1
      rw [htop, hmore] at hs2
      have hs1' : ∀ w, (callFunc 31 #[.int .u64 lo, .int .u64 low, .int .u64 0]).run Try.prog w = .ok (.value (.tuple #[.int .u64 m, .int .u64 o])) w := hs1
      have hs2' : ∀ w, (callFunc 31 #[.int .u64 hi, .int .u64 high, .int .u64 o]).run Try.prog w = .ok (.value (.tuple #[.int .u64 0, .int .u64 0])) w := hs2
      have HS1 := Lib.hid hs1'
      have HS2 := Lib.hid hs2'
      have HHIGH := Lib.hid hhigh
      have HLOW := Lib.hid hlow
      have HUP := Lib.hid hup
      have kq : decide ((q : Int) < 0) = false := by simp
      have kd : decide ((D : Int) ≤ m) = false := by simp; omega
      clear hs1 hs2 hs1' hs2' hm1 htop hmore ho hhigh hlow hup
      go_wp2_with fail
      refine (Try.bits_Mul64 A B (by omega) (by omega) _).mono ?_
      rintro e w3 ⟨rfl, rfl⟩
      rw [HN.out, HHI.out, HLO.out]
      go_wp2_with fail
      refine (Try.bits_Mul64 q D (by omega) (by omega) _).mono ?_
      rintro e w4 ⟨rfl, rfl⟩
      rw [← HP.out, HHIGH.out, HLOW.out]
      by_cases hz : m = 0
      · have hup2 := HUP.out
        rw [if_pos hz, (num64_in (n := (q : Int)) (by omega) (by omega)).1, (num64_in (n := (q : Int)) (by omega) (by omega)).2] at hup2
        obtain ⟨rfl, rfl⟩ := hup2
        subst hz
        clear HUP
        go_wp2_with (first | rw [HS1.out] | rw [HS2.out])
        refine (lives01_any _).mono ?_
        rintro e w5 ⟨rfl, hb5⟩
        go_wp2_with fail
        go_ret
        exact ⟨rfl, below_trans2 (below_trans2 hb1 hb2) hb5⟩
      · have hup2 := HUP.out
        rw [if_neg hz] at hup2
        have kz : ((m : Int) == 0) = false := by simpa using hz
        by_cases hmax : q = 9223372036854775807
        · rw [(num64_out (by omega)).1, (num64_out (by omega)).2] at hup2
          obtain ⟨rfl, rfl⟩ := hup2
          subst hmax
          clear HUP
          go_wp2_with (first | rw [HS1.out] | rw [HS2.out])
          refine (lives01_any _).mono ?_
          rintro e w5 ⟨rfl, hb5⟩
          go_wp2_with fail
          go_ret
          exact ⟨rfl, below_trans2 (below_trans2 hb1 hb2) hb5⟩
        · rw [(num64_in (by omega) (by omega)).1, (num64_in (by omega) (by omega)).2] at hup2
          obtain ⟨rfl, rfl⟩ := hup2
          have kx : ((q : Int) == 9223372036854775807) = false := by simp; omega
          clear HUP
          go_wp2_with (first | rw [HS1.out] | rw [HS2.out])
          refine (lives01_any _).mono ?_
          rintro e w5 ⟨rfl, hb5⟩
          go_wp2_with fail
          go_ret
          exact ⟨rfl, below_trans2 (below_trans2 hb1 hb2) hb5⟩
    · have hu := upNE HBAD.out (by rw [HQI.out]; omega)
      rw [HUN.out, HUE.out, HDN.out, HDE.out] at hu
      obtain ⟨rfl, rfl, rfl, rfl, -⟩ := hu
      clear HDN HDE HUN HUE
      obtain ⟨L, hL⟩ : ∃ L : Nat, L = (D * 9223372036854775808) % 18446744073709551616 := ⟨_, rfl⟩
      have hsh : IntKind.u64.wrap ((D : Int) * 9223372036854775808) = (L : Int) := by rw [IntKind.wrap_u64]; omega
      obtain ⟨G, hG⟩ : ∃ G : Nat, G = D / 2 := ⟨_, rfl⟩
      have hG2 : (D : Int) / 2 = (G : Int) := by omega
      have hle : 9223372036854775808 * D ≤ n := by
        have h5 := HNQ.out
        have : 9223372036854775808 * D ≤ q * D := Nat.mul_le_mul_right _ (by omega)
        have h6 := HP.out
        omega
      have hcmp : G < hi ∨ (G = hi ∧ L ≤ lo) := by
        have := HML.out
        omega
      clear hL hG
      go_wp2_with fail
      refine (Try.bits_Mul64 A B (by omega) (by omega) _).mono ?_
      rintro e w3 ⟨rfl, rfl⟩
      rw [HN.out, HHI.out, HLO.out]
      by_cases hc : G < hi
      · have k4 : decide ((G : Int) < hi) = true := by simpa using hc
        clear hcmp
        go_wp2_with fail
        refine (lives01_any _).mono ?_
        rintro e w4 ⟨rfl, hb4⟩
        go_wp2_with fail
        go_ret
        exact ⟨rfl, below_trans2 (below_trans2 hb1 hb2) hb4⟩
      · have k4 : decide ((G : Int) < hi) = false := by simpa using hc
        obtain ⟨rfl, hLo⟩ : G = hi ∧ L ≤ lo := by omega
        have k5 : decide ((L : Int) ≤ lo) = true := by simpa using hLo
        clear hcmp
        go_wp2_with fail
        refine (lives01_any _).mono ?_
        rintro e w4 ⟨rfl, hb4⟩
        go_wp2_with fail
        go_ret
        exact ⟨rfl, below_trans2 (below_trans2 hb1 hb2) hb4⟩
end Go.Proofs.Ytfbipghjhngncaa
