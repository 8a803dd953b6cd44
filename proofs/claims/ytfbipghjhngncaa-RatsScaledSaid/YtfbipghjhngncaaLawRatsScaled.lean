/- A rate whose terms are both times something is the same rate: the walk. -/
import Derived.Test.YtfbipghjhngncaaLives02
namespace Go.Proofs.Ytfbipghjhngncaa
open Go.RowKit

theorem gcd_scaled (n d k : Int) (hk : 0 ≤ k) : (Int.gcd (n * k) (d * k) : Int) = (Int.gcd n d : Int) * k := by
  rw [Int.gcd_mul_right, Int.natCast_mul, show (k.natAbs : Int) = k by omega]
theorem pos_scaled {n d k : Int} (h : PosT n d) (hk : 1 ≤ k) : PosT (n * k) (d * k) := by
  obtain ⟨h1, h2⟩ := h
  have := Int.mul_le_mul h1 hk (by omega) (by omega)
  have := Int.mul_le_mul h2 hk (by omega) (by omega)
  exact ⟨by omega, by omega⟩
theorem low_scaled {n d k : Int} (h : PosT n d) (hk : 1 ≤ k) : lowN (n * k) (d * k) = lowN n d ∧ lowD (n * k) (d * k) = lowD n d := by
  unfold lowN lowD
  simp only [if_pos h, if_pos (pos_scaled h hk), gcd_scaled n d k (by omega)]
  exact ⟨Int.mul_ediv_mul_of_pos_left _ _ (by omega), Int.mul_ediv_mul_of_pos_left _ _ (by omega)⟩
theorem low_mul {n d : Int} (h : PosT n d) : lowN n d * (Int.gcd n d : Int) = n ∧ lowD n d * (Int.gcd n d : Int) = d := by
  unfold lowN lowD
  rw [if_pos h, if_pos h]
  exact ⟨Int.ediv_mul_cancel (Int.gcd_dvd_left ..), Int.ediv_mul_cancel (Int.gcd_dvd_right ..)⟩
theorem low_gcd {n d : Int} (h : PosT n d) : Int.gcd (lowN n d) (lowD n d) = 1 := by
  have hm := low_mul h
  have hg := gcd_pos h
  have := gcd_scaled (lowN n d) (lowD n d) (Int.gcd n d : Int) (by omega)
  rw [hm.1, hm.2] at this
  have h2 : ((Int.gcd (lowN n d) (lowD n d) : Int) - 1) * (Int.gcd n d : Int) = 0 := by rw [Int.sub_mul, ← this]; omega
  rcases Int.mul_eq_zero.1 h2 with h3 | h3 <;> omega
theorem low_le {n d : Int} (h : PosT n d) : lowN n d ≤ n ∧ lowD n d ≤ d := by
  unfold lowN lowD
  rw [if_pos h, if_pos h]
  have := h.1
  have := h.2
  exact ⟨Int.ediv_le_self _ (by omega), Int.ediv_le_self _ (by omega)⟩
theorem rof_good {n d : Int} (h : PosT n d) (h1 : lowN n d ≤ 1099511627776) (h2 : lowD n d ≤ 1099511627776) : rof n d = .tuple #[ratV (lowN n d) (lowD n d), .int .i64 0] := by
  unfold rof
  rw [if_pos h, if_pos h, show bigT (lowN n d) (lowD n d) = false from decide_eq_false (by omega)]
  rfl
theorem may_low {n d : Int} (h : PosT n d) (h1 : lowN n d ≤ 1099511627776) (h2 : lowD n d ≤ 1099511627776) : mayB (lowN n d) (lowD n d) = true :=
  decide_eq_true ⟨low_ne h, low_gcd h, h1, h2⟩
theorem may_scaled {n d k : Int} (h : PosT n d) (hk : 1 ≤ k) (hn : n ≤ 65536) (hd : d ≤ 65536) : mayB (n * k) (d * k) = (k == 1 && lowN n d == n) := by
  have hg := gcd_pos h
  have hs := gcd_scaled n d k (by omega)
  by_cases hk1 : k = 1
  · subst hk1
    simp only [Int.mul_one, beq_self_eq_true, Bool.true_and]
    by_cases hg1 : Int.gcd n d = 1
    · have := (low_self h).2 hg1
      rw [this.1, beq_self_eq_true]
      exact decide_eq_true ⟨h, hg1, by omega, by omega⟩
    · rw [show mayB n d = false from decide_eq_false (fun hh => hg1 hh.2.1)]
      symm
      rw [beq_eq_false_iff_ne]
      intro he
      have hm := (low_mul h).1
      rw [he] at hm
      have h4 : n * ((Int.gcd n d : Int) - 1) = 0 := by rw [Int.mul_sub, hm]; omega
      rcases Int.mul_eq_zero.1 h4 with h5 | h5
      · have := h.1; omega
      · omega
  · rw [show (k == 1) = false by simpa using hk1, Bool.false_and]
    refine decide_eq_false (fun hh => ?_)
    have h1 : (Int.gcd (n * k) (d * k) : Int) = 1 := by rw [hh.2.1]; rfl
    rw [hs] at h1
    have := Int.mul_le_mul hg (show 2 ≤ k by omega) (by omega) (by omega)
    omega
attribute [local go_sem high] ratEq_run ratSame_self
set_option maxHeartbeats 4000000 in
theorem ratsScaled_law (x y z : Int) (w : World) (x0 : 0 ≤ x) (x1 : x ≤ 65535) (y0 : 0 ≤ y) (y1 : y ≤ 65535) (z0 : 0 ≤ z) (z1 : z ≤ 4294967295) :
    Calls Try.prog 13 #[.int .u16 x, .int .u16 y, .int .u32 z] w fun e w' => e = .returned (.bool true) ∧ Below w.heap.size w w' := by
  obtain ⟨n, hn⟩ : ∃ n, x + 1 = n := ⟨_, rfl⟩
  obtain ⟨d, hd⟩ : ∃ n, y + 1 = n := ⟨_, rfl⟩
  obtain ⟨k, hk⟩ : ∃ n, z + 1 = n := ⟨_, rfl⟩
  have hpos : PosT n d := ⟨by omega, by omega⟩
  have hle := low_le hpos
  have hls := low_scaled hpos (k := k) (by omega)
  have hlm := low_mul hpos
  have hlb := low_ne hpos
  have hr1 := rof_good hpos (by omega) (by omega)
  have hr2 := rof_good (pos_scaled hpos (k := k) (by omega)) (by omega) (by omega)
  rw [hls.1, hls.2] at hr2
  have hmb := may_low hpos (by omega) (by omega)
  have hms := may_scaled hpos (k := k) (by omega) (by omega) (by omega)
  have hnk : 0 ≤ n * k ∧ n * k ≤ 65536 * 4294967296 := ⟨Int.mul_nonneg (by omega) (by omega), Int.mul_le_mul (by omega) (by omega) (by omega) (by omega)⟩
  have hdk : 0 ≤ d * k ∧ d * k ≤ 65536 * 4294967296 := ⟨Int.mul_nonneg (by omega) (by omega), Int.mul_le_mul (by omega) (by omega) (by omega) (by omega)⟩
  obtain ⟨g, hg⟩ : ∃ g : Int, (Int.gcd n d : Int) = g := ⟨_, rfl⟩
  rw [hg] at hlm
  obtain ⟨u, hu⟩ : ∃ u, lowN n d = u := ⟨_, rfl⟩
  obtain ⟨v, hv⟩ : ∃ u, lowD n d = u := ⟨_, rfl⟩
  rw [hu, hv] at hr1 hr2 hmb hle hlm hlb
  rw [hu] at hms
  have hcross : u * d = v * n := by
    rw [← hlm.1, ← hlm.2, Int.mul_left_comm]
  have hud : 0 ≤ u * d ∧ u * d ≤ 65536 * 65536 := ⟨Int.mul_nonneg (by omega) (by omega), Int.mul_le_mul (by omega) (by omega) (by omega) (by omega)⟩
  obtain ⟨P, hP⟩ : ∃ p, n * k = p := ⟨_, rfl⟩
  obtain ⟨Q, hQ⟩ : ∃ p, d * k = p := ⟨_, rfl⟩
  obtain ⟨M, hM⟩ : ∃ p, u * d = p := ⟨_, rfl⟩
  rw [hM] at hcross hud
  rw [hP, hQ] at hr2 hms
  rw [hP] at hnk
  rw [hQ] at hdk
  obtain ⟨p0, p1⟩ := hnk
  obtain ⟨q0, q1⟩ := hdk
  obtain ⟨m0, m1⟩ := hud
  obtain ⟨e, he⟩ : ∃ e, (u == n) = e := ⟨_, rfl⟩
  obtain ⟨e1, he1⟩ : ∃ e, (k == 1) = e := ⟨_, rfl⟩
  rw [he, he1] at hms
  have hcr := hcross.symm
  have huv : 1 ≤ u ∧ u ≤ 65536 ∧ 1 ≤ v ∧ v ≤ 65536 := by omega
  obtain ⟨u0, u1, v0, v1⟩ := huv
  have HR1 := Lib.hid hr1
  have HR2 := Lib.hid hr2
  have HMB := Lib.hid hmb
  have HMS := Lib.hid hms
  clear hr1 hr2 hmb hms hls hlm hg hu hv hpos hcross hle hlb
  go_enter Try.func13, Try.ntmps13
  go_wp2_with fail
  refine (rof_any n d _ (by omega) (by omega) (by omega) (by omega)).mono ?_
  rintro e w1 ⟨rfl, hb1⟩
  rw [HR1.out]
  unfold ratV
  go_wp2_with fail
  refine (rof_any P Q _ (by omega) (by omega) (by omega) (by omega)).mono ?_
  rintro e w2 ⟨rfl, hb2⟩
  rw [HR2.out]
  have T1 := Lib.hid (((Two.new w1 42 (.int .i64 u) (.int .i64 v)).on hb2).alloc (.cells #[.int .i64 u, .int .i64 v] 42))
  have T2 := Lib.hid (Two.new w2 42 (.int .i64 u) (.int .i64 v))
  have HB := Lib.hid (below_trans2 (below_trans2 (below_trans2 hb1 ((Below.refl _ w1).alloc (Nat.le_refl _) (.cells #[.int .i64 u, .int .i64 v] 42))) hb2) ((Below.refl _ w2).alloc (Nat.le_refl _) (.cells #[.int .i64 u, .int .i64 v] 42)))
  have c0 := T1.out.c0
  have c1 := T1.out.c1
  have d0 := T2.out.c0
  have d1 := T2.out.c1
  clear hb1 hb2
  unfold ratV
  go_wp2_with fail
  refine (may_any u v _ (by omega) (by omega) (by omega) (by omega)).mono ?_
  rintro e w3 ⟨rfl, hb3⟩
  rw [HMB.out]
  have T1 := Lib.hid (T1.out.on hb3)
  have c0 := T1.out.c0
  have c1 := T1.out.c1
  have HB := Lib.hid (below_trans2 HB.out hb3)
  clear hb3
  go_wp2_with fail
  refine (may_any P Q _ (by omega) (by omega) (by omega) (by omega)).mono ?_
  rintro e w4 ⟨rfl, hb4⟩
  rw [HMS.out]
  have T1 := Lib.hid (T1.out.on hb4)
  have c0 := T1.out.c0
  have c1 := T1.out.c1
  have HB := Lib.hid (below_trans2 HB.out hb4)
  clear hb4
  cases e1
  · go_wp2_with fail
    refine (lives02_any _).mono ?_
    rintro e w5 ⟨rfl, hb5⟩
    go_wp2_with fail
    go_ret
    exact ⟨rfl, below_trans2 HB.out hb5⟩
  · go_wp2_with fail
    refine (lives02_any _).mono ?_
    rintro e w5 ⟨rfl, hb5⟩
    go_wp2_with fail
    go_ret
    exact ⟨rfl, below_trans2 HB.out hb5⟩
end Go.Proofs.Ytfbipghjhngncaa
