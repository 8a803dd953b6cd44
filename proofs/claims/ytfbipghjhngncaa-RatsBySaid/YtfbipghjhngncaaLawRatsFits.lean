/- What fits is raised to n at most: the walk. -/
import Derived.Test.YtfbipghjhngncaaLives02
namespace Go.Proofs.Ytfbipghjhngncaa
open Go.RowKit

theorem raised_le {m d a : Int} (hd : 0 < d) : raised m d ≤ a ↔ m ≤ a * d := by
  have h := Int.mul_ediv_add_emod m d
  have h1 := Int.emod_nonneg m (show d ≠ 0 by omega)
  have h2 := Int.emod_lt_of_pos m hd
  have h3 : m / d ≤ a ↔ m < (a + 1) * d := by
    rw [← Int.ediv_lt_iff_lt_mul hd]; omega
  have h4 : m / d ≤ a - 1 ↔ m < a * d := by
    rw [← Int.ediv_lt_iff_lt_mul hd]; omega
  rw [Int.add_mul] at h3
  rw [Int.mul_comm] at h
  unfold raised
  split
  · rename_i hz
    constructor
    · intro h5
      have := Int.mul_le_mul_of_nonneg_right h5 (show 0 ≤ d by omega)
      omega
    · intro h5
      rw [h3]; omega
  · rename_i hz
    constructor
    · intro h5; have := h4.1 (by omega); omega
    · intro h5
      have : m ≠ a * d := fun he => hz (by rw [he]; exact Int.mul_emod_left _ _)
      have := h4.2 (by omega)
      omega
/-- What is known of what fits. -/
theorem fits_facts {a n d : Int} (ha : 0 ≤ a) (a1 : a ≤ 9223372036854775807) (hm : mayB n d = true) :
    0 ≤ fitsN a n d ∧ fitsN a n d ≤ 1099511627776 ∧ upE (fitsN a n d) n d = 0 ∧ upN (fitsN a n d) n d ≤ a ∧ 0 ≤ upN (fitsN a n d) n d ∧ downE (fitsN a n d) n d = 0 ∧ 0 ≤ downN (fitsN a n d) n d ∧ downN (fitsN a n d) n d ≤ 9223372036854775807 ∧
    (upN (fitsN a n d) n d = downN (fitsN a n d) n d ∨ upN (fitsN a n d) n d = downN (fitsN a n d) n d + 1) ∧
    (fitsN a n d < 1099511627776 → upE (fitsN a n d + 1) n d = 0 → a < upN (fitsN a n d + 1) n d) := by
  obtain ⟨p1, p2, p3, p4⟩ := may_facts hm
  have hf : fitsN a n d = min (a * d / n) 1099511627776 := if_neg (by rw [hm]; simp; omega)
  have hq0 : 0 ≤ a * d / n := Int.ediv_nonneg (Int.mul_nonneg ha (by omega)) (by omega)
  obtain ⟨y, hy⟩ : ∃ y, fitsN a n d = y := ⟨_, rfl⟩
  rw [hy] at hf ⊢
  have y0 : 0 ≤ y := by omega
  have y1 : y ≤ 1099511627776 := by omega
  have hyn : y * n ≤ a * d := by
    rw [← Int.le_ediv_iff_mul_le (by omega)]; omega
  have hyn0 : 0 ≤ y * n := Int.mul_nonneg y0 (by omega)
  have hb : ¬ badBy y n d := by unfold badBy; omega
  have hb1 : ¬ badBy (y + 1) n d := by unfold badBy; omega
  have hU : raised (y * n) d ≤ a := (raised_le (by omega)).2 hyn
  have hD0 : 0 ≤ y * n / d := Int.ediv_nonneg hyn0 (by omega)
  have hUD : raised (y * n) d = y * n / d ∨ raised (y * n) d = y * n / d + 1 := by
    unfold raised; split <;> omega
  unfold upN upE downN downE
  simp only [if_neg hb, if_neg hb1]
  rw [(num64_in (n := raised (y * n) d) (by omega) (by omega)).1, (num64_in (n := raised (y * n) d) (by omega) (by omega)).2, (num64_in (n := y * n / d) (by omega) (by omega)).1, (num64_in (n := y * n / d) (by omega) (by omega)).2]
  refine ⟨y0, y1, rfl, hU, by omega, rfl, hD0, by omega, hUD, ?_⟩
  intro hlt he
  have hy2 : y = a * d / n := by omega
  have hgt : ¬ raised ((y + 1) * n) d ≤ a := by
    rw [raised_le (by omega)]
    intro h5
    have h6 := (Int.le_ediv_iff_mul_le (show 0 < n by omega)).2 h5
    omega
  unfold num64 err64 at *
  split at he
  · rename_i hr
    rw [if_pos hr]; omega
  · omega
attribute [local go_sem high] ratEq_run ratSame_self
set_option maxHeartbeats 8000000 in
theorem ratsFits_law (a n d : Int) (w : World) (a0 : -9223372036854775808 ≤ a) (a1 : a ≤ 9223372036854775807) (hi : In64p n d) :
    Calls Try.prog 12 #[.int .i64 a, ratV n d] w fun e w' => e = .returned (.bool true) ∧ Below w.heap.size w w' := by
  have hfit := fun w => rfits_any a n d w a0 a1 hi
  have hmay := fun w => may_any n d w hi.1 hi.2.1 hi.2.2.1 hi.2.2.2
  have T1 := Lib.hid (Two.new w 42 (.int .i64 n) (.int .i64 d))
  have HB := Lib.hid ((Below.refl _ w).alloc (Nat.le_refl _) (.cells #[.int .i64 n, .int .i64 d] 42))
  have HI := Lib.hid hi
  clear hi
  by_cases hneg : a < 0
  · have k1 : decide (a < 0) = true := by simpa using hneg
    rw [show fitsN a n d = 0 from if_pos (.inl hneg)] at hfit
    have HF := Lib.hid hfit
    clear hfit hmay
    unfold ratV at *
    go_enter Try.func12, Try.ntmps12
    go_wp2_with fail
    refine (HF.out _).mono ?_
    rintro e w1 ⟨rfl, hb1⟩
    have T1 := Lib.hid (T1.out.on hb1)
    have HB := Lib.hid (below_trans2 HB.out hb1)
    have c0 := T1.out.c0
    have c1 := T1.out.c1
    clear hb1
    go_wp2_with fail
    refine (lives02_any _).mono ?_
    rintro e w2 ⟨rfl, hb2⟩
    go_wp2_with fail
    go_ret
    exact ⟨rfl, below_trans2 HB.out hb2⟩
  · have k1 : decide (a < 0) = false := by simpa using hneg
    cases hm : mayB n d
    · rw [show fitsN a n d = 0 from if_pos (.inr hm)] at hfit
      rw [hm] at hmay
      have HF := Lib.hid hfit
      have HM := Lib.hid hmay
      clear hfit hmay hm
      unfold ratV at *
      go_enter Try.func12, Try.ntmps12
      go_wp2_with fail
      refine (HF.out _).mono ?_
      rintro e w1 ⟨rfl, hb1⟩
      have T1 := Lib.hid (T1.out.on hb1)
      have HB := Lib.hid (below_trans2 HB.out hb1)
      have c0 := T1.out.c0
      have c1 := T1.out.c1
      clear hb1
      go_wp2_with fail
      refine (HM.out _).mono ?_
      rintro e w2 ⟨rfl, hb2⟩
      have T1 := Lib.hid (T1.out.on hb2)
      have HB := Lib.hid (below_trans2 HB.out hb2)
      have c0 := T1.out.c0
      have c1 := T1.out.c1
      clear hb2
      go_wp2_with fail
      refine (lives02_any _).mono ?_
      rintro e w3 ⟨rfl, hb3⟩
      go_wp2_with fail
      go_ret
      exact ⟨rfl, below_trans2 HB.out hb3⟩
    · obtain ⟨y0, y1, ue, ua, u0, de, d0, d1, hud, hmore⟩ := fits_facts (by omega) a1 hm
      obtain ⟨y, hy⟩ : ∃ y, fitsN a n d = y := ⟨_, rfl⟩
      rw [hy] at hfit y0 y1 ue ua u0 de d0 d1 hud hmore
      have hup := fun w => rup_any y n d w (by omega) (by omega) HI.out
      have hup1 := fun w (h : y < 1099511627776) => rup_any (y + 1) n d w (by omega) (by omega) HI.out
      have hdn := fun w => rdown_any y n d w (by omega) (by omega) HI.out
      rw [hm] at hup hup1 hdn hmay
      simp only [if_true] at hup hup1 hdn
      rw [ue] at hup
      rw [de] at hdn
      obtain ⟨U, hU⟩ : ∃ z, upN y n d = z := ⟨_, rfl⟩
      obtain ⟨D, hD⟩ : ∃ z, downN y n d = z := ⟨_, rfl⟩
      obtain ⟨M, hM⟩ : ∃ z, upN (y + 1) n d = z := ⟨_, rfl⟩
      obtain ⟨F, hF⟩ : ∃ z, upE (y + 1) n d = z := ⟨_, rfl⟩
      rw [hU] at hup ua u0 hud
      rw [hD] at hdn d0 d1 hud
      rw [hM, hF] at hup1 hmore
      have k2 : decide (y < 0) = false := by simp; omega
      have k3 : decide (1099511627776 < y) = false := by simp; omega
      have k4 : decide (a < U) = false := by simp; omega
      have HF := Lib.hid hfit
      have HM := Lib.hid hmay
      have HU := Lib.hid hup
      have HU1 := Lib.hid hup1
      have HD := Lib.hid hdn
      have HMO := Lib.hid hmore
      clear hfit hmay hup hup1 hdn hmore hy hU hD hM hF ue de hm
      unfold ratV pairV at *
      go_enter Try.func12, Try.ntmps12
      go_wp2_with fail
      refine (HF.out _).mono ?_
      rintro e w1 ⟨rfl, hb1⟩
      have T1 := Lib.hid (T1.out.on hb1)
      have HB := Lib.hid (below_trans2 HB.out hb1)
      have c0 := T1.out.c0
      have c1 := T1.out.c1
      clear hb1
      go_wp2_with fail
      refine (HM.out _).mono ?_
      rintro e w2 ⟨rfl, hb2⟩
      have T1 := Lib.hid (T1.out.on hb2)
      have HB := Lib.hid (below_trans2 HB.out hb2)
      have c0 := T1.out.c0
      have c1 := T1.out.c1
      clear hb2
      go_wp2_with fail
      refine (HU.out _).mono ?_
      rintro e w3 ⟨rfl, hb3⟩
      by_cases hlt : y < 1099511627776
      · have k5 : decide (y < 1099511627776) = true := by simpa using hlt
        have T1 := Lib.hid (T1.out.on hb3)
        have HB := Lib.hid (below_trans2 HB.out hb3)
        have c0 := T1.out.c0
        have c1 := T1.out.c1
        clear hb3
        go_wp2_with fail
        refine (HU1.out _ hlt).mono ?_
        rintro e w4 ⟨rfl, hb4⟩
        by_cases hf : F = 0
        · subst hf
          have k6 : decide (M ≤ a) = false := by have := HMO.out hlt rfl; simp; omega
          have T1 := Lib.hid (T1.out.on hb4)
          have HB := Lib.hid (below_trans2 HB.out hb4)
          have c0 := T1.out.c0
          have c1 := T1.out.c1
          clear hb4
          go_wp2_with fail
          refine (HD.out _).mono ?_
          rintro e w5 ⟨rfl, hb5⟩
          by_cases hUD : U = D
          · subst hUD
            have T1 := Lib.hid (T1.out.on hb5)
            have HB := Lib.hid (below_trans2 HB.out hb5)
            have c0 := T1.out.c0
            have c1 := T1.out.c1
            clear hb5
            go_wp2_with fail
            refine (lives02_any _).mono ?_
            rintro e w6 ⟨rfl, hb6⟩
            go_wp2_with fail
            go_ret
            exact ⟨rfl, below_trans2 HB.out hb6⟩
          · have kx : (U == D) = false := by simpa using hUD
            have hU2 : U = D + 1 := by omega
            subst hU2
            clear hUD hud
            have T1 := Lib.hid (T1.out.on hb5)
            have HB := Lib.hid (below_trans2 HB.out hb5)
            have c0 := T1.out.c0
            have c1 := T1.out.c1
            clear hb5
            go_wp2_with fail
            refine (lives02_any _).mono ?_
            rintro e w6 ⟨rfl, hb6⟩
            go_wp2_with fail
            go_ret
            exact ⟨rfl, below_trans2 HB.out hb6⟩
        · have k6 : (F == 0) = false := by simpa using hf
          have T1 := Lib.hid (T1.out.on hb4)
          have HB := Lib.hid (below_trans2 HB.out hb4)
          have c0 := T1.out.c0
          have c1 := T1.out.c1
          clear hb4
          go_wp2_with fail
          refine (HD.out _).mono ?_
          rintro e w5 ⟨rfl, hb5⟩
          by_cases hUD : U = D
          · subst hUD
            have T1 := Lib.hid (T1.out.on hb5)
            have HB := Lib.hid (below_trans2 HB.out hb5)
            have c0 := T1.out.c0
            have c1 := T1.out.c1
            clear hb5
            go_wp2_with fail
            refine (lives02_any _).mono ?_
            rintro e w6 ⟨rfl, hb6⟩
            go_wp2_with fail
            go_ret
            exact ⟨rfl, below_trans2 HB.out hb6⟩
          · have kx : (U == D) = false := by simpa using hUD
            have hU2 : U = D + 1 := by omega
            subst hU2
            clear hUD hud
            have T1 := Lib.hid (T1.out.on hb5)
            have HB := Lib.hid (below_trans2 HB.out hb5)
            have c0 := T1.out.c0
            have c1 := T1.out.c1
            clear hb5
            go_wp2_with fail
            refine (lives02_any _).mono ?_
            rintro e w6 ⟨rfl, hb6⟩
            go_wp2_with fail
            go_ret
            exact ⟨rfl, below_trans2 HB.out hb6⟩
      · have k5 : decide (y < 1099511627776) = false := by simpa using hlt
        have T1 := Lib.hid (T1.out.on hb3)
        have HB := Lib.hid (below_trans2 HB.out hb3)
        have c0 := T1.out.c0
        have c1 := T1.out.c1
        clear hb3
        go_wp2_with fail
        refine (HD.out _).mono ?_
        rintro e w4 ⟨rfl, hb4⟩
        by_cases hUD : U = D
        · subst hUD
          have T1 := Lib.hid (T1.out.on hb4)
          have HB := Lib.hid (below_trans2 HB.out hb4)
          have c0 := T1.out.c0
          have c1 := T1.out.c1
          clear hb4
          go_wp2_with fail
          refine (lives02_any _).mono ?_
          rintro e w5 ⟨rfl, hb5⟩
          go_wp2_with fail
          go_ret
          exact ⟨rfl, below_trans2 HB.out hb5⟩
        · have kx : (U == D) = false := by simpa using hUD
          have hU2 : U = D + 1 := by omega
          subst hU2
          clear hUD hud
          have T1 := Lib.hid (T1.out.on hb4)
          have HB := Lib.hid (below_trans2 HB.out hb4)
          have c0 := T1.out.c0
          have c1 := T1.out.c1
          clear hb4
          go_wp2_with fail
          refine (lives02_any _).mono ?_
          rintro e w5 ⟨rfl, hb5⟩
          go_wp2_with fail
          go_ret
          exact ⟨rfl, below_trans2 HB.out hb5⟩
end Go.Proofs.Ytfbipghjhngncaa
