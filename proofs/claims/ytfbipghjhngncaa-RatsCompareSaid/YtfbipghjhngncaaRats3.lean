/- rats: the inverse of a rate; what comes of a number by a rate. -/
import Derived.Test.YtfbipghjhngncaaRats2
namespace Go.Proofs.Ytfbipghjhngncaa
open Go.RowKit

attribute [local go_sem high] ratEq_run ratSame_self
def In64p (n d : Int) : Prop := -9223372036854775808 ≤ n ∧ n ≤ 9223372036854775807 ∧ -9223372036854775808 ≤ d ∧ d ≤ 9223372036854775807
def invV (n d : Int) : Value := if mayB n d then ratV d n else ratV 0 0
set_option maxHeartbeats 1000000 in
theorem inverse_any (n d : Int) (w : World) (hi : In64p n d) :
    Calls Try.prog 36 #[ratV n d] w fun e w' => e = .returned (invV n d) ∧ Below w.heap.size w w' := by
  obtain ⟨n0, n1, d0, d1⟩ := hi
  have hm := fun w => may_any n d w n0 n1 d0 d1
  unfold invV
  generalize mayB n d = m at *
  unfold ratV at *
  go_enter Try.func36, Try.ntmps36
  go_wp2_with fail
  refine (hm _).mono ?_
  rintro e w1 ⟨rfl, hb1⟩
  have t1 := ((Two.new w _ _ _).alloc _).on hb1
  have t2 := (Two.new (w.alloc (.cells #[.int .i64 n, .int .i64 d] 42)) 42 (.int .i64 0) (.int .i64 0)).on hb1
  rw [World.size_alloc] at t2
  have c0 := t1.c0
  have c1 := t1.c1
  have k0 := t2.c0
  have k1 := t2.c1
  have f0 := t2.f0
  have f1 := t2.f1
  have hal : Below w.heap.size w (w.alloc (.cells #[.int .i64 n, .int .i64 d] 42)) := (Below.refl _ w).alloc (Nat.le_refl _) _
  have hal2 := below_trans2 hal ((Below.refl _ _).alloc (Nat.le_refl _) (.cells #[.int .i64 0, .int .i64 0] 42))
  have HB := Lib.hid (below_trans2 hal2 hb1)
  have T2 := Lib.hid t2
  clear t1 t2 hb1 hal hal2 hm
  cases m
  · have r0 := (T2.out.set0 (.int .i64 0)).c0
    have r1 := ((T2.out.set0 (.int .i64 0)).set1 (.int .i64 0)).c1
    go_wp2_with fail
    refine bodyPost_ret (by simp [results, Try.results36, go_sem, r0, r1]; try rfl) rfl ?_
    exact ⟨rfl, ((HB.out.setCell (by simp) _).setCell (by simp) _)⟩
  · have r0 := (T2.out.set0 (.int .i64 d)).c0
    have r1 := ((T2.out.set0 (.int .i64 d)).set1 (.int .i64 n)).c1
    go_wp2_with fail
    refine bodyPost_ret (by simp [results, Try.results36, go_sem, r0, r1]; try rfl) rfl ?_
    exact ⟨rfl, ((HB.out.setCell (by simp) _).setCell (by simp) _)⟩

theorem rdown_any (a n d : Int) (w : World) (a0 : -9223372036854775808 ≤ a) (a1 : a ≤ 9223372036854775807) (hi : In64p n d) :
    Calls Try.prog 41 #[.int .i64 a, ratV n d] w fun e w' => e = .returned (if mayB n d then pairV (downN a n d) (downE a n d) else pairV 0 1) ∧ Below w.heap.size w w' := by
  obtain ⟨n0, n1, d0, d1⟩ := hi
  have hm := fun w => may_any n d w n0 n1 d0 d1
  generalize mayB n d = m at *
  unfold ratV at *
  go_enter Try.func41, Try.ntmps41
  go_wp2_with fail
  refine (hm _).mono ?_
  rintro e w1 ⟨rfl, hb1⟩
  have t1 := (Two.new w _ _ _).on hb1
  have c0 := t1.c0
  have c1 := t1.c1
  have hal : Below w.heap.size w (w.alloc (.cells #[.int .i64 n, .int .i64 d] 42)) := (Below.refl _ w).alloc (Nat.le_refl _) _
  have HB := Lib.hid (below_trans2 hal hb1)
  clear t1 hb1 hal hm
  cases m
  · go_wp2_with fail
    go_ret2
    exact ⟨rfl, HB.out⟩
  · go_wp2_with fail
    refine (down_any a n d _ a0 a1 n0 n1 d0 d1).mono ?_
    rintro e w2 ⟨rfl, hb2⟩
    unfold pairV
    go_wp2_with fail
    go_ret2
    exact ⟨rfl, below_trans2 HB.out hb2⟩
theorem rup_any (a n d : Int) (w : World) (a0 : -9223372036854775808 ≤ a) (a1 : a ≤ 9223372036854775807) (hi : In64p n d) :
    Calls Try.prog 43 #[.int .i64 a, ratV n d] w fun e w' => e = .returned (if mayB n d then pairV (upN a n d) (upE a n d) else pairV 0 1) ∧ Below w.heap.size w w' := by
  obtain ⟨n0, n1, d0, d1⟩ := hi
  have hm := fun w => may_any n d w n0 n1 d0 d1
  generalize mayB n d = m at *
  unfold ratV at *
  go_enter Try.func43, Try.ntmps43
  go_wp2_with fail
  refine (hm _).mono ?_
  rintro e w1 ⟨rfl, hb1⟩
  have t1 := (Two.new w _ _ _).on hb1
  have c0 := t1.c0
  have c1 := t1.c1
  have hal : Below w.heap.size w (w.alloc (.cells #[.int .i64 n, .int .i64 d] 42)) := (Below.refl _ w).alloc (Nat.le_refl _) _
  have HB := Lib.hid (below_trans2 hal hb1)
  clear t1 hb1 hal hm
  cases m
  · go_wp2_with fail
    go_ret2
    exact ⟨rfl, HB.out⟩
  · go_wp2_with fail
    refine (up_any a n d _ a0 a1 n0 n1 d0 d1).mono ?_
    rintro e w2 ⟨rfl, hb2⟩
    unfold pairV
    go_wp2_with fail
    go_ret2
    exact ⟨rfl, below_trans2 HB.out hb2⟩

theorem may_sym {n d : Int} : mayB d n = mayB n d := by
  unfold mayB PosT
  congr 1
  rw [Int.gcd_comm d n]
  apply propext
  constructor <;> (rintro ⟨⟨h1, h2⟩, h3, h4, h5⟩; exact ⟨⟨h2, h1⟩, h3, h5, h4⟩)
theorem may_facts {n d : Int} (h : mayB n d = true) : 1 ≤ n ∧ 1 ≤ d ∧ n ≤ 1099511627776 ∧ d ≤ 1099511627776 := by
  have := of_decide_eq_true h
  exact ⟨this.1.1, this.1.2, this.2.2.1, this.2.2.2⟩
/-- How much fits. -/
def fitsN (a n d : Int) : Int := if a < 0 ∨ mayB n d = false then 0 else min (a * d / n) 1099511627776
theorem num64_min {x : Int} (h : 0 ≤ x) : (if err64 x = 0 then min (num64 x) 1099511627776 else 1099511627776) = min x 1099511627776 := by
  by_cases hx : x ≤ 9223372036854775807
  · rw [(num64_in (by omega) hx).1, (num64_in (by omega) hx).2]; rfl
  · rw [(num64_out (n := x) (by omega)).2, if_neg (by omega)]; omega
set_option maxHeartbeats 1000000 in
theorem rfits_any (a n d : Int) (w : World) (a0 : -9223372036854775808 ≤ a) (a1 : a ≤ 9223372036854775807) (hi : In64p n d) :
    Calls Try.prog 45 #[.int .i64 a, ratV n d] w fun e w' => e = .returned (.int .i64 (fitsN a n d)) ∧ Below w.heap.size w w' := by
  by_cases hneg : a < 0
  · have k1 : decide (a < 0) = true := by simpa using hneg
    rw [show fitsN a n d = 0 from if_pos (.inl hneg)]
    unfold ratV
    go_enter Try.func45, Try.ntmps45
    go_wp2_with fail
    go_ret
    exact ⟨rfl, by go_grown⟩
  · have k1 : decide (a < 0) = false := by simpa using hneg
    have hm := fun w => may_any n d w hi.1 hi.2.1 hi.2.2.1 hi.2.2.2
    cases hmm : mayB n d
    · rw [show fitsN a n d = 0 from if_pos (.inr hmm)]
      rw [hmm] at hm
      clear hmm
      unfold ratV at *
      go_enter Try.func45, Try.ntmps45
      go_wp2_with fail
      refine (hm _).mono ?_
      rintro e w1 ⟨rfl, hb1⟩
      have hal : Below w.heap.size w (w.alloc (.cells #[.int .i64 n, .int .i64 d] 42)) := (Below.refl _ w).alloc (Nat.le_refl _) _
      have HB := Lib.hid (below_trans2 hal hb1)
      clear hb1 hal hm
      go_wp2_with fail
      go_ret
      exact ⟨rfl, HB.out⟩
    · obtain ⟨p1, p2, p3, p4⟩ := may_facts hmm
      have hbad : ¬ badBy a d n := by unfold badBy; omega
      have hq0 := div_nonneg hbad
      have hfit : fitsN a n d = min (a * d / n) 1099511627776 := if_neg (by rw [hmm]; simp; omega)
      have hmin := num64_min hq0
      have hdn : downN a d n = num64 (a * d / n) := if_neg hbad
      have hde : downE a d n = err64 (a * d / n) := if_neg hbad
      rw [← hdn, ← hde] at hmin
      rw [← hmin] at hfit
      rw [hfit]
      have hdr : -9223372036854775808 ≤ downN a d n ∧ downN a d n ≤ 9223372036854775807 := by
        rw [hdn]; unfold num64; split <;> omega
      have hinv := fun w => inverse_any n d w hi
      have hdown := fun w => rdown_any a d n w a0 a1 ⟨hi.2.2.1, hi.2.2.2, hi.1, hi.2.1⟩
      unfold invV at hinv
      rw [hmm] at hinv hm
      rw [may_sym, hmm] at hdown
      simp only [if_true] at hinv hdown
      obtain ⟨x, hx⟩ : ∃ x, downN a d n = x := ⟨_, rfl⟩
      obtain ⟨u, hu⟩ : ∃ x, downE a d n = x := ⟨_, rfl⟩
      rw [hx, hu] at hdown ⊢
      rw [hx] at hdr
      clear hmm hbad hq0 hfit hmin hdn hde hx hu p1 p2 p3 p4
      obtain ⟨r0, r1⟩ := hdr
      unfold ratV pairV at *
      go_enter Try.func45, Try.ntmps45
      go_wp2_with fail
      refine (hm _).mono ?_
      rintro e w1 ⟨rfl, hb1⟩
      have t1 := (Two.new w _ _ _).on hb1
      have c0 := t1.c0
      have c1 := t1.c1
      have hal : Below w.heap.size w (w.alloc (.cells #[.int .i64 n, .int .i64 d] 42)) := (Below.refl _ w).alloc (Nat.le_refl _) _
      have HB := Lib.hid (below_trans2 hal hb1)
      have HI := Lib.hid hinv
      have HD := Lib.hid hdown
      clear hb1 hal hm t1 hinv hdown
      go_wp2_with fail
      refine (HI.out _).mono ?_
      rintro e w2 ⟨rfl, hb2⟩
      go_wp2_with fail
      refine (HD.out _).mono ?_
      rintro e w3 ⟨rfl, hb3⟩
      have HB2 := Lib.hid (below_trans2 (below_trans2 HB.out hb2) hb3)
      clear hb2 hb3 HI HD
      by_cases hz : u = 0
      · subst hz
        go_wp2_with fail
        go_ret
        exact ⟨rfl, HB2.out⟩
      · have hz2 : (u == 0) = false := by simpa using hz
        go_wp2_with fail
        go_ret
        exact ⟨by simp [hz], HB2.out⟩
end Go.Proofs.Ytfbipghjhngncaa
