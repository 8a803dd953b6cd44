/- Rates stand in one order: the walk. -/
import Derived.Test.YtfbipghjhngncaaLives02
import Derived.Test.YtfbipghjhngncaaExt
namespace Go.Proofs.Ytfbipghjhngncaa
open Go.RowKit

theorem cmpI_swap (x y : Int) : cmpI y x = -cmpI x y := by
  rcases Int.lt_trichotomy x y with h | rfl | h
  · rw [cmpI_lt h, cmpI_gt h]; rfl
  · rw [cmpI_eq]; rfl
  · rw [cmpI_lt h, cmpI_gt h]
theorem cmpI_cases (x y : Int) : cmpI x y = -1 ∨ cmpI x y = 0 ∨ cmpI x y = 1 := by
  rcases Int.lt_trichotomy x y with h | rfl | h
  · exact .inl (cmpI_lt h)
  · exact .inr (.inl (cmpI_eq x))
  · exact .inr (.inr (cmpI_gt h))
theorem cmpI_le {x y : Int} : cmpI x y ≤ 0 ↔ x ≤ y := by
  rcases Int.lt_trichotomy x y with h | rfl | h
  · rw [cmpI_lt h]; omega
  · rw [cmpI_eq]; omega
  · rw [cmpI_gt h]; omega
theorem cmpR_swap (an ad bn bd : Int) : cmpR bn bd an ad = -cmpR an ad bn bd := by
  unfold cmpR
  rw [Bool.and_comm]
  cases mayB an ad && mayB bn bd
  · rfl
  · exact cmpI_swap _ _
theorem cmpR_cases (an ad bn bd : Int) : cmpR an ad bn bd = -1 ∨ cmpR an ad bn bd = 0 ∨ cmpR an ad bn bd = 1 := by
  unfold cmpR
  cases mayB an ad && mayB bn bd
  · exact .inr (.inl rfl)
  · exact cmpI_cases _ _
theorem cmpR_may {an ad bn bd : Int} (ha : mayB an ad = true) (hb : mayB bn bd = true) : cmpR an ad bn bd = cmpI (an * bd) (bn * ad) := by
  unfold cmpR; rw [ha, hb]; rfl
theorem cmpR_inv {an ad bn bd : Int} (ha : mayB an ad = true) (hb : mayB bn bd = true) : cmpR ad an bd bn = -cmpR an ad bn bd := by
  rw [cmpR_may ha hb, cmpR_may (by rw [may_sym]; exact ha) (by rw [may_sym]; exact hb), Int.mul_comm ad bn, Int.mul_comm bd an]
  exact cmpI_swap _ _
/-- Rates in their lowest terms that are equal have the same terms. -/
theorem cmpR_same {an ad bn bd : Int} (ha : mayB an ad = true) (hb : mayB bn bd = true) (h : cmpR an ad bn bd = 0) : an = bn ∧ ad = bd := by
  rw [cmpR_may ha hb] at h
  have he : an * bd = bn * ad := by
    rcases Int.lt_trichotomy (an * bd) (bn * ad) with h1 | h1 | h1
    · rw [cmpI_lt h1] at h; omega
    · exact h1
    · rw [cmpI_gt h1] at h; omega
  obtain ⟨⟨p1, p2⟩, pg, -, -⟩ := of_decide_eq_true ha
  obtain ⟨⟨q1, q2⟩, qg, -, -⟩ := of_decide_eq_true hb
  have e1 : an.natAbs ∣ bn.natAbs * ad.natAbs := by rw [← Int.natAbs_mul]; exact Int.natAbs_dvd_natAbs.2 ⟨bd, he.symm⟩
  have e2 : bn.natAbs ∣ an.natAbs * bd.natAbs := by rw [← Int.natAbs_mul]; exact Int.natAbs_dvd_natAbs.2 ⟨ad, he⟩
  have h1 := Nat.le_of_dvd (by omega) (Nat.Coprime.dvd_of_dvd_mul_right pg e1)
  have h2 := Nat.le_of_dvd (by omega) (Nat.Coprime.dvd_of_dvd_mul_right qg e2)
  obtain rfl : an = bn := by omega
  refine ⟨rfl, ?_⟩
  have h3 : an * (bd - ad) = 0 := by rw [Int.mul_sub, he]; omega
  rcases Int.mul_eq_zero.1 h3 with h4 | h4 <;> omega
theorem cmpR_trans {an ad bn bd cn cd : Int} (ha : mayB an ad = true) (hb : mayB bn bd = true) (hc : mayB cn cd = true) (h1 : cmpR an ad bn bd ≤ 0) (h2 : cmpR bn bd cn cd ≤ 0) : cmpR an ad cn cd ≤ 0 := by
  rw [cmpR_may ha hb, cmpI_le] at h1
  rw [cmpR_may hb hc, cmpI_le] at h2
  rw [cmpR_may ha hc, cmpI_le]
  obtain ⟨p1, p2, -, -⟩ := may_facts ha
  obtain ⟨q1, q2, -, -⟩ := may_facts hb
  obtain ⟨r1, r2, -, -⟩ := may_facts hc
  have k1 := Int.mul_le_mul_of_nonneg_right h1 (show 0 ≤ cd by omega)
  have k2 := Int.mul_le_mul_of_nonneg_right h2 (show 0 ≤ ad by omega)
  have k3 : an * cd * bd ≤ cn * ad * bd := by
    have e1 : an * bd * cd = an * cd * bd := Int.mul_right_comm _ _ _
    have e2 : bn * ad * cd = bn * cd * ad := Int.mul_right_comm _ _ _
    have e3 : cn * bd * ad = cn * ad * bd := Int.mul_right_comm _ _ _
    omega
  exact Int.le_of_mul_le_mul_right k3 (by omega)

theorem inv_good (x y : Int) (w : World) (h : In64p x y ∧ mayB x y = true) : Calls Try.prog 36 #[.agg #[.int .i64 x, .int .i64 y]] w fun e w' => e = .returned (.agg #[.int .i64 y, .int .i64 x]) ∧ Below w.heap.size w w' := by
  have hh := inverse_any x y w h.1
  unfold invV at hh
  rw [h.2] at hh
  exact hh
theorem may_ans {x y : Int} (h : In64p x y) : Ans 34 #[.agg #[.int .i64 x, .int .i64 y]] (.bool (mayB x y)) := fun w => may_any x y w h.1 h.2.1 h.2.2.1 h.2.2.2
theorem compare_ans {an ad bn bd : Int} (ha : In64p an ad) (hb : In64p bn bd) : Ans 39 #[.agg #[.int .i64 an, .int .i64 ad], .agg #[.int .i64 bn, .int .i64 bd]] (.int .i64 (cmpR an ad bn bd)) := fun w => rcompare_any an ad bn bd w ha hb
theorem inverse_ans {x y : Int} (h : In64p x y) (hm : mayB x y = true) : Ans 36 #[.agg #[.int .i64 x, .int .i64 y]] (.agg #[.int .i64 y, .int .i64 x]) := fun w => inv_good x y w ⟨h, hm⟩
theorem lives02_ans : Ans 38 #[] (.bool true) := fun w => lives02_any w
attribute [local go_sem high] ratEq_run ratSame_self
set_option maxRecDepth 100000 in
set_option maxHeartbeats 4000000 in
theorem ratsOrder_law (an ad bn bd cn cd : Int) (w : World) (ha : In64p an ad) (hb : In64p bn bd) (hc : In64p cn cd) :
    Calls Try.prog 11 #[ratV an ad, ratV bn bd, ratV cn cd] w fun e w' => e = .returned (.bool true) ∧ Below w.heap.size w w' := by
  have hL := lives02_ans
  have hMA := may_ans ha
  have hMB := may_ans hb
  have hMC := may_ans hc
  obtain ⟨n, hn⟩ : ∃ n, cmpR an ad bn bd = n := ⟨_, rfl⟩
  have hnc := cmpR_cases an ad bn bd
  rw [hn] at hnc
  have hr1 : decide (n < -1) = false := by simp; omega
  have hr2 : decide (1 < n) = false := by simp; omega
  have hAB := (compare_ans ha hb).to (by rw [hn])
  have hBA := (compare_ans hb ha).to (show _ = Value.int .i64 (-n) by rw [cmpR_swap, hn])
  unfold ratV
  cases hma : mayB an ad
  · obtain rfl : n = 0 := by rw [← hn]; unfold cmpR; rw [hma]; rfl
    rw [hma] at hMA
    clear hn hnc ha hb hc hma
    go_enter Try.func11, Try.ntmps11
    go_wp2_with ((with_reducible refine Ans.call (by assumption) ?_); intro _)
    go_ret
    exact ⟨rfl, by repeat (first | exact Ext.refl _ | refine Ext.alloc ?_ _ | refine Ext.ext ?_ _ | refine Ext.drew ?_)⟩
  · cases hmb : mayB bn bd
    · obtain rfl : n = 0 := by rw [← hn]; unfold cmpR; rw [hma, hmb]; rfl
      rw [hma] at hMA
      rw [hmb] at hMB
      clear hn hnc ha hb hc hma hmb
      go_enter Try.func11, Try.ntmps11
      go_wp2_with ((with_reducible refine Ans.call (by assumption) ?_); intro _)
      go_ret
      exact ⟨rfl, by repeat (first | exact Ext.refl _ | refine Ext.alloc ?_ _ | refine Ext.ext ?_ _ | refine Ext.drew ?_)⟩
    · rw [hma] at hMA
      rw [hmb] at hMB
      cases hmc : mayB cn cd
      · rw [hmc] at hMC
        clear hn ha hb hc hma hmb hmc
        rcases hnc with rfl | rfl | rfl
        all_goals
          go_enter Try.func11, Try.ntmps11
          go_wp2_with ((with_reducible refine Ans.call (by assumption) ?_); intro _)
          go_ret
          exact ⟨rfl, by repeat (first | exact Ext.refl _ | refine Ext.alloc ?_ _ | refine Ext.ext ?_ _ | refine Ext.drew ?_)⟩
      · rw [hmc] at hMC
        have hIA := inverse_ans ha hma
        have hIB := inverse_ans hb hmb
        have hIA2 : Ans 36 #[.agg #[.int .i64 ad, .int .i64 an]] (.agg #[.int .i64 an, .int .i64 ad]) := inverse_ans ⟨ha.2.2.1, ha.2.2.2, ha.1, ha.2.1⟩ (by rw [may_sym]; exact hma)
        have hCI := (compare_ans (an := ad) (ad := an) (bn := bd) (bd := bn) ⟨ha.2.2.1, ha.2.2.2, ha.1, ha.2.1⟩ ⟨hb.2.2.1, hb.2.2.2, hb.1, hb.2.1⟩).to (show _ = Value.int .i64 (-n) by rw [cmpR_inv hma hmb, hn])
        have hBC := compare_ans hb hc
        have hAC := compare_ans ha hc
        have htr := fun h1 h2 => cmpR_trans hma hmb hmc h1 h2
        have hsame := cmpR_same hma hmb
        have huv : cmpR an ad bn bd = 0 → cmpR bn bd cn cd = cmpR an ad cn cd := fun h => by obtain ⟨rfl, rfl⟩ := hsame h; rfl
        rw [hn] at htr hsame huv
        generalize cmpR bn bd cn cd = u at *
        generalize cmpR an ad cn cd = v at *
        clear hn ha hb hc hma hmb hmc
        by_cases hu : u ≤ 0
        · have ku : decide (u ≤ 0) = true := by simpa using hu
          rcases hnc with rfl | rfl | rfl
          · have hv := htr (by omega) hu
            have kv : decide (0 < v) = false := by simp; omega
            clear htr hsame huv hu hv
            go_enter Try.func11, Try.ntmps11
            go_wp2_with ((with_reducible refine Ans.call (by assumption) ?_); intro _)
            refine wp_region_ext (by kernel_rfl) (by kernel_rfl) ?_
            repeat (go_big_quiet_step ((with_reducible exact Ans.quiet (by assumption))))
            refine wpQuiet_nil ?_
            rintro _ ⟨_, rfl⟩
            go_wp2_with ((with_reducible refine Ans.call (by assumption) ?_); intro _)
            go_ret
            exact ⟨rfl, by repeat (first | exact Ext.refl _ | refine Ext.alloc ?_ _ | refine Ext.ext ?_ _ | refine Ext.drew ?_)⟩
          · have e := huv rfl
            subst e
            obtain ⟨rfl, rfl⟩ := hsame rfl
            have kv : decide (0 < u) = false := by simp; omega
            clear htr hsame huv hu
            go_enter Try.func11, Try.ntmps11
            go_wp2_with ((with_reducible refine Ans.call (by assumption) ?_); intro _)
            refine wp_region_ext (by kernel_rfl) (by kernel_rfl) ?_
            repeat (go_big_quiet_step ((with_reducible exact Ans.quiet (by assumption))))
            refine wpQuiet_nil ?_
            rintro _ ⟨_, rfl⟩
            go_wp2_with ((with_reducible refine Ans.call (by assumption) ?_); intro _)
            go_ret
            exact ⟨rfl, by repeat (first | exact Ext.refl _ | refine Ext.alloc ?_ _ | refine Ext.ext ?_ _ | refine Ext.drew ?_)⟩
          · clear htr hsame huv hu
            go_enter Try.func11, Try.ntmps11
            go_wp2_with ((with_reducible refine Ans.call (by assumption) ?_); intro _)
            refine wp_region_ext (by kernel_rfl) (by kernel_rfl) ?_
            repeat (go_big_quiet_step ((with_reducible exact Ans.quiet (by assumption))))
            refine wpQuiet_nil ?_
            rintro _ ⟨_, rfl⟩
            go_wp2_with ((with_reducible refine Ans.call (by assumption) ?_); intro _)
            go_ret
            exact ⟨rfl, by repeat (first | exact Ext.refl _ | refine Ext.alloc ?_ _ | refine Ext.ext ?_ _ | refine Ext.drew ?_)⟩
        · have ku : decide (u ≤ 0) = false := by simp; omega
          rcases hnc with rfl | rfl | rfl
          · clear htr hsame huv hu
            go_enter Try.func11, Try.ntmps11
            go_wp2_with ((with_reducible refine Ans.call (by assumption) ?_); intro _)
            refine wp_region_ext (by kernel_rfl) (by kernel_rfl) ?_
            repeat (go_big_quiet_step ((with_reducible exact Ans.quiet (by assumption))))
            refine wpQuiet_nil ?_
            rintro _ ⟨_, rfl⟩
            go_wp2_with ((with_reducible refine Ans.call (by assumption) ?_); intro _)
            go_ret
            exact ⟨rfl, by repeat (first | exact Ext.refl _ | refine Ext.alloc ?_ _ | refine Ext.ext ?_ _ | refine Ext.drew ?_)⟩
          · have e := huv rfl
            subst e
            obtain ⟨rfl, rfl⟩ := hsame rfl
            clear htr hsame huv hu
            go_enter Try.func11, Try.ntmps11
            go_wp2_with ((with_reducible refine Ans.call (by assumption) ?_); intro _)
            refine wp_region_ext (by kernel_rfl) (by kernel_rfl) ?_
            repeat (go_big_quiet_step ((with_reducible exact Ans.quiet (by assumption))))
            refine wpQuiet_nil ?_
            rintro _ ⟨_, rfl⟩
            go_wp2_with ((with_reducible refine Ans.call (by assumption) ?_); intro _)
            go_ret
            exact ⟨rfl, by repeat (first | exact Ext.refl _ | refine Ext.alloc ?_ _ | refine Ext.ext ?_ _ | refine Ext.drew ?_)⟩
          · clear htr hsame huv hu
            go_enter Try.func11, Try.ntmps11
            go_wp2_with ((with_reducible refine Ans.call (by assumption) ?_); intro _)
            refine wp_region_ext (by kernel_rfl) (by kernel_rfl) ?_
            repeat (go_big_quiet_step ((with_reducible exact Ans.quiet (by assumption))))
            refine wpQuiet_nil ?_
            rintro _ ⟨_, rfl⟩
            go_wp2_with ((with_reducible refine Ans.call (by assumption) ?_); intro _)
            go_ret
            exact ⟨rfl, by repeat (first | exact Ext.refl _ | refine Ext.alloc ?_ _ | refine Ext.ext ?_ _ | refine Ext.drew ?_)⟩
end Go.Proofs.Ytfbipghjhngncaa
