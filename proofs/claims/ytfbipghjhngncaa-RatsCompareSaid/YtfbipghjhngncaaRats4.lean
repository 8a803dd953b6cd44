/- rats.Compare: which of two rates is less. -/
import Derived.Test.YtfbipghjhngncaaRats3
namespace Go.Proofs.Ytfbipghjhngncaa
open Go.RowKit

def cmpI (x y : Int) : Int := if x < y then -1 else if y < x then 1 else 0
theorem cmpI_lt {x y : Int} (h : x < y) : cmpI x y = -1 := if_pos h
theorem cmpI_gt {x y : Int} (h : y < x) : cmpI x y = 1 := by unfold cmpI; rw [if_neg (by omega), if_pos h]
theorem cmpI_eq (x : Int) : cmpI x x = 0 := by unfold cmpI; rw [if_neg (by omega), if_neg (by omega)]
theorem compare_any (x y : Int) (w : World) :
    Calls Try.prog 60 #[.int .u64 x, .int .u64 y] w fun e w' => e = .returned (.int .i64 (cmpI x y)) ∧ w' = w := by
  rcases Int.lt_trichotomy x y with h | rfl | h
  · have k1 : decide (x < y) = true := by simpa using h
    rw [cmpI_lt h]
    go_enter Try.func60, Try.ntmps60
    go_wp2
    go_ret
    exact ⟨rfl, rfl⟩
  · rw [cmpI_eq]
    go_enter Try.func60, Try.ntmps60
    go_wp2
    go_ret
    exact ⟨rfl, rfl⟩
  · have k1 : decide (x < y) = false := by simp; omega
    have k2 : decide (y < x) = true := by simpa using h
    rw [cmpI_gt h]
    go_enter Try.func60, Try.ntmps60
    go_wp2
    go_ret
    exact ⟨rfl, rfl⟩

def orI (x y : Int) : Int := if x = 0 then y else x
set_option maxHeartbeats 1000000 in
theorem or_any (a : Option Addr) (c : Nat) (x y : Int) (w : World) (hx : Rd w a [.int .i64 x, .int .i64 y]) :
    Calls Try.prog 59 #[.slice a 2 c] w fun e w' => e = .returned (.int .i64 (orI x y)) ∧ Below w.heap.size w w' := by
  obtain ⟨b, o, rfl, h0⟩ := hx 0 (by simp)
  have h1 := hx.get (i := 1) (by simp)
  simp only [Nat.add_zero, List.getElem_cons_zero, List.getElem_cons_succ] at h0 h1
  by_cases hz : x = 0
  · subst hz
    rw [show orI 0 y = y from if_pos rfl]
    by_cases hy : y = 0
    · subst hy
      go_enter Try.func59, Try.ntmps59
      go_wp2
      go_rounds 3
      go_ret
      exact ⟨rfl, Below.refl _ _⟩
    · have ky : (y != 0) = true := by simpa using hy
      go_enter Try.func59, Try.ntmps59
      go_wp2
      go_rounds 2
      go_ret
      exact ⟨rfl, Below.refl _ _⟩
  · have kx : (x != 0) = true := by simpa using hz
    rw [show orI x y = x from if_neg hz]
    go_enter Try.func59, Try.ntmps59
    go_wp2
    go_rounds 2
    go_ret
    exact ⟨rfl, Below.refl _ _⟩

def cmpR (an ad bn bd : Int) : Int := if mayB an ad && mayB bn bd then cmpI (an * bd) (bn * ad) else 0
theorem lex (p q : Nat) : orI (cmpI ((p / 18446744073709551616 : Nat) : Int) ((q / 18446744073709551616 : Nat) : Int)) (cmpI ((p % 18446744073709551616 : Nat) : Int) ((q % 18446744073709551616 : Nat) : Int)) = cmpI (p : Int) (q : Int) := by
  have h1 := Nat.div_add_mod p 18446744073709551616
  have h2 := Nat.div_add_mod q 18446744073709551616
  have h3 := Nat.mod_lt p (show 18446744073709551616 > 0 by omega)
  have h4 := Nat.mod_lt q (show 18446744073709551616 > 0 by omega)
  generalize p / 18446744073709551616 = a at *
  generalize q / 18446744073709551616 = b at *
  generalize p % 18446744073709551616 = c at *
  generalize q % 18446744073709551616 = d at *
  rcases Nat.lt_trichotomy a b with h | rfl | h
  · rw [cmpI_lt (by omega), cmpI_lt (x := (p : Int)) (by omega)]; rfl
  · rw [cmpI_eq]
    show cmpI _ _ = _
    rcases Nat.lt_trichotomy c d with h | rfl | h
    · rw [cmpI_lt (by omega), cmpI_lt (x := (p : Int)) (by omega)]
    · obtain rfl : p = q := by omega
      rw [cmpI_eq, cmpI_eq]
    · rw [cmpI_gt (by omega), cmpI_gt (x := (p : Int)) (by omega)]
  · rw [cmpI_gt (by omega), cmpI_gt (x := (p : Int)) (by omega)]; rfl
set_option maxHeartbeats 2000000 in
theorem rcompare_any (an ad bn bd : Int) (w : World) (ha : In64p an ad) (hb : In64p bn bd) :
    Calls Try.prog 39 #[ratV an ad, ratV bn bd] w fun e w' => e = .returned (.int .i64 (cmpR an ad bn bd)) ∧ Below w.heap.size w w' := by
  have hm := fun w => may_any an ad w ha.1 ha.2.1 ha.2.2.1 ha.2.2.2
  have hm2 := fun w => may_any bn bd w hb.1 hb.2.1 hb.2.2.1 hb.2.2.2
  have hal : Below w.heap.size w (w.alloc (.cells #[.int .i64 an, .int .i64 ad] 42)) := (Below.refl _ w).alloc (Nat.le_refl _) _
  have hal2 := below_trans2 hal ((Below.refl _ _).alloc (Nat.le_refl _) (.cells #[.int .i64 bn, .int .i64 bd] 42))
  have HAL := Lib.hid hal2
  clear hal hal2
  cases hma : mayB an ad
  · rw [show cmpR an ad bn bd = 0 by unfold cmpR; rw [hma]; rfl]
    rw [hma] at hm
    clear hma hm2
    unfold ratV at *
    go_enter Try.func39, Try.ntmps39
    go_wp2_with fail
    refine (hm _).mono ?_
    rintro e w1 ⟨rfl, hb1⟩
    have HB := Lib.hid (below_trans2 HAL.out hb1)
    clear hb1 hm
    go_wp2_with fail
    go_ret
    exact ⟨rfl, HB.out⟩
  · cases hmb : mayB bn bd
    · rw [show cmpR an ad bn bd = 0 by unfold cmpR; rw [hma, hmb]; rfl]
      rw [hma] at hm
      rw [hmb] at hm2
      clear hma hmb
      have HM2 := Lib.hid hm2
      clear hm2
      unfold ratV at *
      go_enter Try.func39, Try.ntmps39
      go_wp2_with fail
      refine (hm _).mono ?_
      rintro e w1 ⟨rfl, hb1⟩
      have t2 := (Two.new (w.alloc (.cells #[.int .i64 an, .int .i64 ad] 42)) 42 (.int .i64 bn) (.int .i64 bd)).on hb1
      rw [World.size_alloc] at t2
      have c0 := t2.c0
      have c1 := t2.c1
      have HB := Lib.hid (below_trans2 HAL.out hb1)
      clear hb1 hm t2
      go_wp2_with fail
      refine (HM2.out _).mono ?_
      rintro e w2 ⟨rfl, hb2⟩
      have HB2 := Lib.hid (below_trans2 HB.out hb2)
      clear hb2
      go_wp2_with fail
      go_ret
      exact ⟨rfl, HB2.out⟩
    · obtain ⟨p1, p2, p3, p4⟩ := may_facts hma
      obtain ⟨q1, q2, q3, q4⟩ := may_facts hmb
      rw [show cmpR an ad bn bd = cmpI (an * bd) (bn * ad) by unfold cmpR; rw [hma, hmb]; rfl]
      rw [hma] at hm
      rw [hmb] at hm2
      clear hma hmb
      have HM2 := Lib.hid hm2
      clear hm2
      obtain ⟨An, rfl⟩ : ∃ A : Nat, an = A := ⟨an.toNat, by omega⟩
      obtain ⟨Ad, rfl⟩ : ∃ A : Nat, ad = A := ⟨ad.toNat, by omega⟩
      obtain ⟨Bn, rfl⟩ : ∃ A : Nat, bn = A := ⟨bn.toNat, by omega⟩
      obtain ⟨Bd, rfl⟩ : ∃ A : Nat, bd = A := ⟨bd.toNat, by omega⟩
      have HLEX := Lib.hid (lex (An * Bd) (Bn * Ad))
      obtain ⟨h1, hh1⟩ : ∃ x : Nat, x = An * Bd / 18446744073709551616 := ⟨_, rfl⟩
      obtain ⟨l1, hl1⟩ : ∃ x : Nat, x = An * Bd % 18446744073709551616 := ⟨_, rfl⟩
      obtain ⟨h2, hh2⟩ : ∃ x : Nat, x = Bn * Ad / 18446744073709551616 := ⟨_, rfl⟩
      obtain ⟨l2, hl2⟩ : ∃ x : Nat, x = Bn * Ad % 18446744073709551616 := ⟨_, rfl⟩
      rw [← hh1, ← hl1, ← hh2, ← hl2] at HLEX
      have HH1 := Lib.hid hh1
      have HL1 := Lib.hid hl1
      have HH2 := Lib.hid hh2
      have HL2 := Lib.hid hl2
      clear hh1 hl1 hh2 hl2
      rw [show (An : Int) * Bd = ((An * Bd : Nat) : Int) by simp, show (Bn : Int) * Ad = ((Bn * Ad : Nat) : Int) by simp, ← HLEX.out]
      clear HLEX
      obtain ⟨c1, hc1⟩ : ∃ x, x = cmpI (h1 : Int) h2 := ⟨_, rfl⟩
      obtain ⟨c2, hc2⟩ : ∃ x, x = cmpI (l1 : Int) l2 := ⟨_, rfl⟩
      rw [← hc1, ← hc2]
      have HC1 := Lib.hid hc1
      have HC2 := Lib.hid hc2
      clear hc1 hc2
      unfold ratV at *
      go_enter Try.func39, Try.ntmps39
      go_wp2_with fail
      refine (hm _).mono ?_
      rintro e w1 ⟨rfl, hb1⟩
      have t1 := ((Two.new w 42 (.int .i64 An) (.int .i64 Ad)).alloc (.cells #[.int .i64 Bn, .int .i64 Bd] 42)).on hb1
      have t2 := (Two.new (w.alloc (.cells #[.int .i64 An, .int .i64 Ad] 42)) 42 (.int .i64 Bn) (.int .i64 Bd)).on hb1
      rw [World.size_alloc] at t2
      have c0 := t2.c0
      have c1 := t2.c1
      have HB := Lib.hid (below_trans2 HAL.out hb1)
      clear hb1 hm
      have T1 := Lib.hid t1
      have T2 := Lib.hid t2
      clear t1 t2
      go_wp2_with fail
      refine (HM2.out _).mono ?_
      rintro e w2 ⟨rfl, hb2⟩
      have HB2 := Lib.hid (below_trans2 HB.out hb2)
      have T1' := T1.out.on hb2
      have T2' := T2.out.on hb2
      have c0 := T2'.c0
      have c1 := T2'.c1
      have d0 := T1'.c0
      have d1 := T1'.c1
      clear hb2 T1' T2'
      go_wp2_with fail
      refine (Try.bits_Mul64 An Bd (by omega) (by omega) _).mono ?_
      rintro e w3 ⟨rfl, rfl⟩
      rw [← HH1.out, ← HL1.out]
      go_wp2_with fail
      refine (Try.bits_Mul64 Bn Ad (by omega) (by omega) _).mono ?_
      rintro e w3 ⟨rfl, rfl⟩
      rw [← HH2.out, ← HL2.out]
      go_wp2_with fail
      refine (compare_any h1 h2 _).mono ?_
      rintro e w3 ⟨rfl, rfl⟩
      rw [← HC1.out]
      go_wp2_with fail
      refine (compare_any l1 l2 _).mono ?_
      rintro e w3 ⟨rfl, rfl⟩
      rw [← HC2.out]
      go_wp2_with fail
      refine (or_any _ 2 _ _ _ (Rd.lit _ _ _ _)).mono ?_
      rintro e w4 ⟨rfl, hb4⟩
      go_wp2_with fail
      go_ret
      exact ⟨rfl, (HB2.out.alloc (by have := HB2.out.size; omega) _).trans (hb4.mono (by have := HB2.out.size; simp; omega))⟩
end Go.Proofs.Ytfbipghjhngncaa
