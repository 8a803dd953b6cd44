/- math/bits.Div64: the quotient and what is left, where the upper word is less than the divisor. -/
import Derived.Test.YtfbipghjhngncaaDivPlain
import Derived.Test.YtfbipghjhngncaaShelf
import Derived.WalkKit
import Derived.WalkSpells
import Derived.Handy
import Derived.Outline
import Derived.Lib.Hide
import Derived.Deep.QuietTactic
import Derived.BigQuiet
import Derived.WalkSmall
import Derived.Deep.CutBlock
import Derived.Deep.DeepCutAuto
import Derived.Laws.Bits64
import Derived.Laws.Bits64b
import Derived.Lib.ItoaNum
namespace Go.Proofs.Ytfbipghjhngncaa
open Go.RowKit

set_option maxRecDepth 100000 in
set_option maxHeartbeats 1000000 in
theorem div64_low (lo y : Int) (w : World) (h0 : 0 ≤ lo) (h1 : lo < 18446744073709551616) (hy : 0 < y) (hy' : y < 18446744073709551616) :
    Calls Try.prog 66 #[.int .u64 0, .int .u64 lo, .int .u64 y] w fun e w' => e = .returned (.tuple #[.int .u64 (lo / y), .int .u64 (lo % y)]) ∧ Below w.heap.size w w' := by
  have hb : (y == 0) = false := by simp; omega
  have hyn : ¬ y ≤ 0 := by omega
  go_enter Try.func66, Try.ntmps66
  go_wp2_with fail
  go_quiet (fail)
  go_wp2_with fail
  go_ret2
  exact ⟨rfl, below_drewN (Below.refl _ _) _⟩

theorem left_wrap {U V1 Q Y R : Int} (hR : R = U * 4294967296 + V1 - Q * Y) (h0 : 0 ≤ R) (h1 : R < 18446744073709551616) : IntKind.u64.wrap (IntKind.u64.wrap (IntKind.u64.wrap (U * 4294967296) + V1) - IntKind.u64.wrap (Q * Y)) = R := by
  simp only [IntKind.wrap_u64]
  generalize Q * Y = P at *
  omega
theorem mul_small {q y : Int} (h0 : 0 ≤ q) (h1 : q ≤ 4294967295) (h2 : 0 ≤ y) (h3 : y ≤ 4294967295) : q * y < 18446744073709551616 := by
  have h4 : q * y ≤ 4294967295 * y := Int.mul_le_mul_of_nonneg_right h1 h2
  omega
set_option maxRecDepth 100000 in
set_option maxHeartbeats 4000000 in
theorem div64_high (hi lo y : Int) (w : World) (hh : 0 < hi) (hhy : hi < y) (h0 : 0 ≤ lo) (h1 : lo < 18446744073709551616) (hy' : y < 18446744073709551616)
    (s : Nat) (hs : Lib.bitLen y.toNat + s = 64) (Y Y1 Y0 U V V1 V0 : Int) (hY : y * 2 ^ s = Y) (hYd : Y = Y1 * 4294967296 + Y0) (hY1 : 2147483648 ≤ Y1) (hY1' : Y1 < 4294967296) (hY0 : 0 ≤ Y0) (hY0' : Y0 < 4294967296)
    (hand : bits .and .u64 Y 4294967295 = Y0) (hU : bits .or .u64 (hi * 2 ^ s) (lo / 2 ^ (64 - s)) = U) (hU0 : 0 ≤ U) (hUY : U < Y) (hhs : hi * 2 ^ s < 18446744073709551616) (hhs0 : 0 ≤ hi * 2 ^ s)
    (hV : IntKind.u64.wrap (lo * 2 ^ s) = V) (hVd : V = V1 * 4294967296 + V0) (hV1 : 0 ≤ V1) (hV1' : V1 < 4294967296) (hV0 : 0 ≤ V0) (hV0' : V0 < 4294967296) (hvand : bits .and .u64 V 4294967295 = V0) :
    Calls Try.prog 66 #[.int .u64 hi, .int .u64 lo, .int .u64 y] w fun e w' => e = .returned (.tuple #[.int .u64 ((U * 18446744073709551616 + V) / Y), .int .u64 ((U * 18446744073709551616 + V) % Y / 2 ^ s)]) ∧ Below w.heap.size w w' := by
  have hb : (y == 0) = false := by simp; omega
  have hb2 : (hi == 0) = false := by simp; omega
  have hs64 : s ≤ 64 := by omega
  have hlz : (64 : Int) - (Lib.bitLen y.toNat : Int) = s := by omega
  have hYlt : Y < 18446744073709551616 := by omega
  have hYpos : 0 < Y := by omega
  have hV0b : 0 ≤ V := by omega
  have hVlt : V < 18446744073709551616 := by omega
  have hYq : Y / 4294967296 = Y1 := by omega
  have hVq : V / 4294967296 = V1 := by omega
  obtain ⟨Q, hQ⟩ : ∃ Q, Q = (U * 4294967296 + V1) / Y := ⟨_, rfl⟩
  obtain ⟨R, hR⟩ : ∃ R, R = (U * 4294967296 + V1) % Y := ⟨_, rfl⟩
  obtain ⟨Q', hQ'⟩ : ∃ Q', Q' = (R * 4294967296 + V0) / Y := ⟨_, rfl⟩
  have hR0 : 0 ≤ R := by rw [hR]; exact Int.emod_nonneg _ (by omega)
  have hRY : R < Y := by rw [hR]; exact Int.emod_lt_of_pos _ hYpos
  have ht1 := trial_first (Q := Q) hY1 hY1' hY0 hY0' hU0 (by omega) hV1 hV1' (by rw [hQ, hYd])
  have ht2 := trial_first (Q := Q') hY1 hY1' hY0 hY0' hR0 (by omega) hV0 hV0' (by rw [hQ', hYd])
  have hfin := two_digits U V1 V0 Y hYpos
  rw [← hVd, ← hQ, ← hR, ← hQ'] at hfin
  have HLZ := Lib.hid hlz
  have HS := Lib.hid hs
  have HYD := Lib.hid hYd
  have HVD := Lib.hid hVd
  have HQ := Lib.hid hQ
  have HR := Lib.hid hR
  have HQ' := Lib.hid hQ'
  have HT1 := Lib.hid ht1
  have HT2 := Lib.hid ht2
  have HF := Lib.hid hfin
  have hq0 := ht1.q0
  obtain ⟨q, hq⟩ : ∃ q, U / Y1 = q := ⟨_, rfl⟩
  rw [hq] at hq0
  have hp0 : 0 ≤ q * Y1 := Int.mul_nonneg hq0 (by omega)
  have hp1 : q * Y1 ≤ U := by rw [← hq]; have := ht1.r0; omega
  obtain ⟨q', hq'⟩ : ∃ q', R / Y1 = q' := ⟨_, rfl⟩
  have hq0' := ht2.q0
  rw [hq'] at hq0'
  have hp0' : 0 ≤ q' * Y1 := Int.mul_nonneg hq0' (by omega)
  have hp1' : q' * Y1 ≤ R := by rw [← hq']; have := ht2.r0; omega
  have HQ0 := Lib.hid hq
  have HQ0' := Lib.hid hq'
  have hq' := Lib.hid hq'
  clear hlz hs hYd hVd hQ hR hQ' ht1 ht2 hfin
  have hq'c := hq'.out
  go_enter Try.func66, Try.ntmps66
  go_wp2_with fail
  refine (Try.bits_LeadingZeros64 y w (by omega) (by omega)).mono ?_
  rintro e w1 ⟨rfl, rfl⟩
  rw [HLZ.out]
  go_upto_block 0 with fail
  go_cut [15, 16] from 19 (fun a b wx => a = .int .u64 Q ∧ (∃ r, b = .int .u64 r) ∧ wx = w1)
  case first =>
    go_wp2_with fail
    go_loop [15, 16] (fun a b => ∃ q r : Int, a = .int .u64 q ∧ b = .int .u64 r ∧ Trial U V1 Y1 Y0 Q q r) (fun a _ => (intOf a).toNat)
    case atStart => exact ⟨_, _, rfl, rfl, by rw [← HQ0.out]; exact HT1.out⟩
    case round =>
      obtain ⟨q, r, rfl, rfl, ht⟩ := hrel
      have hr0 := ht.r0
      have hrl := ht.rlt
      have hq0 := ht.q0
      have hql := ht.qle
      have HT := Lib.hid ht
      clear ht
      have hm0 : 0 ≤ q * Y0 := Int.mul_nonneg hq0 hY0
      by_cases hgt : 4294967296 ≤ q ∨ 4294967296 * r + V1 < q * Y0
      · have hn := trial_next HT.out hY1 hY1' hY0 hY0' hU0 (by have := HYD.out; omega) hV1 hV1' (by rw [HQ.out, HYD.out]) hgt
        obtain ⟨hn1, hn2, hn3⟩ := hn
        have HN3 := Lib.hid hn3
        clear hn3
        by_cases hbig : 4294967296 ≤ q
        · have hd1 : decide (4294967296 ≤ q) = true := by simpa using hbig
          clear hgt
          by_cases hbr : 4294967296 ≤ r + Y1
          · have hd2 : decide (4294967296 ≤ r + Y1) = true := by simpa using hbr
            have hQ := trial_break HN3.out hn1 hql hn2 hY1 hY0 hY0' hV1 (by rw [HQ.out, HYD.out]) hbr
            have HQQ := Lib.hid hQ
            clear hQ
            go_wp2_with fail
            go_meet
            exact ⟨by rw [HQQ.out], ⟨_, rfl⟩, rfl⟩
          · have hd2 : decide (4294967296 ≤ r + Y1) = false := by simpa using hbr
            go_wp2_with fail
            go_round
            case rel => exact ⟨_, _, rfl, rfl, trial_step HT.out hn1 hn2 HN3.out hY1 (by omega)⟩
            case measure => simp [intOf]; omega
        · have hd1 : decide (4294967296 ≤ q) = false := by simpa using hbig
          have hgt' : 4294967296 * r + V1 < q * Y0 := by omega
          have hm1 := mul_small hq0 (by omega : q ≤ 4294967295) hY0 (by omega)
          have hd3 : decide (4294967296 * r + V1 < q * Y0) = true := by simpa using hgt'
          clear hgt
          by_cases hbr : 4294967296 ≤ r + Y1
          · have hd2 : decide (4294967296 ≤ r + Y1) = true := by simpa using hbr
            have hQ := trial_break HN3.out hn1 hql hn2 hY1 hY0 hY0' hV1 (by rw [HQ.out, HYD.out]) hbr
            have HQQ := Lib.hid hQ
            clear hQ
            go_wp2_with fail
            go_meet
            exact ⟨by rw [HQQ.out], ⟨_, rfl⟩, rfl⟩
          · have hd2 : decide (4294967296 ≤ r + Y1) = false := by simpa using hbr
            go_wp2_with fail
            go_round
            case rel => exact ⟨_, _, rfl, rfl, trial_step HT.out hn1 hn2 HN3.out hY1 (by omega)⟩
            case measure => simp [intOf]; omega
      · have hbig : ¬ 4294967296 ≤ q := by omega
        have hle : q * Y0 ≤ 4294967296 * r + V1 := by omega
        have hd1 : decide (4294967296 ≤ q) = false := by simpa using hbig
        have hm1 := mul_small hq0 (by omega : q ≤ 4294967295) hY0 (by omega)
        have hd3 : decide (4294967296 * r + V1 < q * Y0) = false := by simpa using hle
        have hQ := trial_end HT.out.sum HT.out.ge hY1 hY0 (by rw [HQ.out, HYD.out]) hle
        have HQQ := Lib.hid hQ
        clear hQ hgt
        go_wp2_with fail
        go_meet
        exact ⟨by rw [HQQ.out], ⟨_, rfl⟩, rfl⟩
  case rest =>
    obtain ⟨rfl, ⟨r0, rfl⟩, rfl⟩ := hcut
    have hun : IntKind.u64.wrap (IntKind.u64.wrap (IntKind.u64.wrap (U * 4294967296) + V1) - IntKind.u64.wrap (Q * Y)) = R := left_wrap (by rw [HR.out, ← digit_left HQ.out]) hR0 (by omega)
    have hun2 : IntKind.u64.wrap (IntKind.u64.wrap (IntKind.u64.wrap (R * 4294967296) + V0) - IntKind.u64.wrap (Q' * Y)) = (R * 4294967296 + V0) % Y := left_wrap (by rw [← digit_left HQ'.out]) (Int.emod_nonneg _ (by omega)) (by have := Int.emod_lt_of_pos (R * 4294967296 + V0) hYpos; omega)
    have hQ0 : 0 ≤ Q := by rw [HQ.out]; exact Int.ediv_nonneg (by omega) (by omega)
    have hQ1 : Q < 4294967296 := by rw [HQ.out]; exact Int.ediv_lt_of_lt_mul (by omega) (by omega)
    have hQ0' : 0 ≤ Q' := by rw [HQ'.out]; exact Int.ediv_nonneg (by omega) (by omega)
    have hQ1' : Q' < 4294967296 := by rw [HQ'.out]; exact Int.ediv_lt_of_lt_mul (by omega) (by omega)
    clear hq hp0 hp1 hq0 hU hV
    go_upto_block 2 with fail
    go_cut [18, 16] from 19 (fun a b wx => a = .int .u64 Q' ∧ (∃ r, b = .int .u64 r) ∧ wx = wc)
    case first =>
      go_wp2_with fail
      go_loop [18, 16] (fun a b => ∃ q r : Int, a = .int .u64 q ∧ b = .int .u64 r ∧ Trial R V0 Y1 Y0 Q' q r) (fun a _ => (intOf a).toNat)
      case atStart => exact ⟨_, _, rfl, rfl, by rw [← hq'c]; exact HT2.out⟩
      case round =>
        obtain ⟨q, r, rfl, rfl, ht⟩ := hrel
        have hr0 := ht.r0
        have hrl := ht.rlt
        have hq0 := ht.q0
        have hql := ht.qle
        have HT := Lib.hid ht
        clear ht
        have hm0 : 0 ≤ q * Y0 := Int.mul_nonneg hq0 hY0
        by_cases hgt : 4294967296 ≤ q ∨ 4294967296 * r + V0 < q * Y0
        · have hn := trial_next HT.out hY1 hY1' hY0 hY0' hR0 (by have := HYD.out; omega) hV0 hV0' (by rw [HQ'.out, HYD.out]) hgt
          obtain ⟨hn1, hn2, hn3⟩ := hn
          have HN3 := Lib.hid hn3
          clear hn3
          by_cases hbig : 4294967296 ≤ q
          · have hd1 : decide (4294967296 ≤ q) = true := by simpa using hbig
            clear hgt
            by_cases hbr : 4294967296 ≤ r + Y1
            · have hd2 : decide (4294967296 ≤ r + Y1) = true := by simpa using hbr
              have hQ := trial_break HN3.out hn1 hql hn2 hY1 hY0 hY0' hV0 (by rw [HQ'.out, HYD.out]) hbr
              have HQQ := Lib.hid hQ
              clear hQ
              go_wp2_with fail
              go_meet
              exact ⟨by rw [HQQ.out], ⟨_, rfl⟩, rfl⟩
            · have hd2 : decide (4294967296 ≤ r + Y1) = false := by simpa using hbr
              go_wp2_with fail
              go_round
              case rel => exact ⟨_, _, rfl, rfl, trial_step HT.out hn1 hn2 HN3.out hY1 (by omega)⟩
              case measure => simp [intOf]; omega
          · have hd1 : decide (4294967296 ≤ q) = false := by simpa using hbig
            have hgt' : 4294967296 * r + V0 < q * Y0 := by omega
            have hm1 := mul_small hq0 (by omega : q ≤ 4294967295) hY0 (by omega)
            have hd3 : decide (4294967296 * r + V0 < q * Y0) = true := by simpa using hgt'
            clear hgt
            by_cases hbr : 4294967296 ≤ r + Y1
            · have hd2 : decide (4294967296 ≤ r + Y1) = true := by simpa using hbr
              have hQ := trial_break HN3.out hn1 hql hn2 hY1 hY0 hY0' hV0 (by rw [HQ'.out, HYD.out]) hbr
              have HQQ := Lib.hid hQ
              clear hQ
              go_wp2_with fail
              go_meet
              exact ⟨by rw [HQQ.out], ⟨_, rfl⟩, rfl⟩
            · have hd2 : decide (4294967296 ≤ r + Y1) = false := by simpa using hbr
              go_wp2_with fail
              go_round
              case rel => exact ⟨_, _, rfl, rfl, trial_step HT.out hn1 hn2 HN3.out hY1 (by omega)⟩
              case measure => simp [intOf]; omega
        · have hbig : ¬ 4294967296 ≤ q := by omega
          have hle : q * Y0 ≤ 4294967296 * r + V0 := by omega
          have hd1 : decide (4294967296 ≤ q) = false := by simpa using hbig
          have hm1 := mul_small hq0 (by omega : q ≤ 4294967295) hY0 (by omega)
          have hd3 : decide (4294967296 * r + V0 < q * Y0) = false := by simpa using hle
          have hQ := trial_end HT.out.sum HT.out.ge hY1 hY0 (by rw [HQ'.out, HYD.out]) hle
          have HQQ := Lib.hid hQ
          clear hQ hgt
          go_wp2_with fail
          go_meet
          exact ⟨by rw [HQQ.out], ⟨_, rfl⟩, rfl⟩
    case rest =>
      obtain ⟨rfl, ⟨r1, rfl⟩, rfl⟩ := hcut
      go_wp2_with fail
      go_ret2
      refine ⟨by rw [HF.out.1, HF.out.2]; rfl, ?_⟩
      first | exact Below.refl _ _ | exact below_drewN (Below.refl _ _) _

theorem bitLen_facts (n : Nat) (h0 : 0 < n) (h1 : n < 2 ^ 64) : ∃ s, Lib.bitLen n + s = 64 ∧ s < 64 ∧ 2 ^ 63 ≤ n * 2 ^ s ∧ n * 2 ^ s < 2 ^ 64 := by
  obtain ⟨a, b, c⟩ := Lib.bitLenAux_bounds 64 n h1 (by omega)
  have hle : Lib.bitLen n ≤ 64 := Lib.bitLen_le n 64 (by omega) h1
  show ∃ s, Lib.bitLenAux 64 n + s = 64 ∧ _
  change Lib.bitLenAux 64 n ≤ 64 at hle
  generalize Lib.bitLenAux 64 n = k at *
  refine ⟨64 - k, by omega, by omega, ?_, ?_⟩
  · have : 2 ^ (k - 1) * 2 ^ (64 - k) ≤ n * 2 ^ (64 - k) := Nat.mul_le_mul_right _ b
    rwa [← Nat.pow_add, show k - 1 + (64 - k) = 63 by omega] at this
  · have : n * 2 ^ (64 - k) < 2 ^ k * 2 ^ (64 - k) := Nat.mul_lt_mul_of_pos_right c (Nat.two_pow_pos _)
    rwa [← Nat.pow_add, show k + (64 - k) = 64 by omega] at this
theorem or_parts (h l s : Nat) (hs : s ≤ 64) (hl : l < 2 ^ 64) (hh : h * 2 ^ s < 2 ^ 64) : bits .or .u64 ((h : Int) * 2 ^ s) ((l : Int) / 2 ^ (64 - s)) = ((h * 2 ^ s + l / 2 ^ (64 - s) : Nat) : Int) := by
  have hd : l / 2 ^ (64 - s) < 2 ^ s := by
    apply Nat.div_lt_of_lt_mul
    rwa [← Nat.pow_add, show 64 - s + s = 64 by omega]
  have hd2 : l / 2 ^ (64 - s) < 2 ^ 64 := Nat.lt_of_lt_of_le hd (Nat.pow_le_pow_right (by omega) hs)
  have e := bits_or_u64_nat (h * 2 ^ s) (l / 2 ^ (64 - s)) (by omega) (by omega)
  rw [show h * 2 ^ s ||| l / 2 ^ (64 - s) = h * 2 ^ s + l / 2 ^ (64 - s) by
    rw [Nat.mul_comm h]; exact (Nat.two_pow_add_eq_or_of_lt hd h).symm] at e
  rw [← e]
  simp [Int.natCast_ediv]
theorem shifted_parts (h l s : Nat) (hs : s ≤ 64) : (h * 2 ^ s + l / 2 ^ (64 - s)) * 18446744073709551616 + (l * 2 ^ s) % 18446744073709551616 = (h * 18446744073709551616 + l) * 2 ^ s := by
  have e : (18446744073709551616 : Nat) = 2 ^ (64 - s) * 2 ^ s := by rw [← Nat.pow_add, show 64 - s + s = 64 by omega]
  have h1 : l * 2 ^ s / 18446744073709551616 = l / 2 ^ (64 - s) := by rw [e]; exact Nat.mul_div_mul_right _ _ (Nat.two_pow_pos s)
  have h2 := Nat.div_add_mod (l * 2 ^ s) 18446744073709551616
  rw [h1] at h2
  rw [Nat.add_mul, Nat.add_mul, Nat.mul_right_comm h]
  omega
/-- math/bits.Div64, where the upper word is less than the divisor. -/
theorem div64_any (h l d : Nat) (w : World) (hd : h < d) (hd' : d < 18446744073709551616) (hl : l < 18446744073709551616) :
    Calls Try.prog 66 #[.int .u64 h, .int .u64 l, .int .u64 d] w fun e w' => e = .returned (.tuple #[.int .u64 (((h * 18446744073709551616 + l) / d : Nat) : Int), .int .u64 (((h * 18446744073709551616 + l) % d : Nat) : Int)]) ∧ Below w.heap.size w w' := by
  rcases Nat.eq_zero_or_pos h with rfl | hp
  · refine (div64_low (l : Int) (d : Int) w (by omega) (by omega) (by omega) (by omega)).mono ?_
    rintro e w' ⟨rfl, hb⟩
    refine ⟨?_, hb⟩
    simp
  · obtain ⟨s, hs, hs64, hlo, hhi⟩ := bitLen_facts d (by omega) (by omega)
    have hpow : 0 < 2 ^ s := Nat.two_pow_pos s
    have hhs : h * 2 ^ s < 2 ^ 64 := Nat.lt_of_le_of_lt (Nat.mul_le_mul_right _ (Nat.le_of_lt hd)) hhi
    have hsp := shifted_parts h l s (by omega)
    have hUY : h * 2 ^ s + l / 2 ^ (64 - s) < d * 2 ^ s := by
      have h1 : (h * 18446744073709551616 + l) * 2 ^ s < (d * 18446744073709551616) * 2 ^ s := Nat.mul_lt_mul_of_pos_right (by omega) hpow
      rw [← hsp, Nat.mul_right_comm d] at h1
      omega
    have e2 : ((2 ^ s : Nat) : Int) = 2 ^ s := by simp
    obtain ⟨U, hU⟩ : ∃ U, U = h * 2 ^ s + l / 2 ^ (64 - s) := ⟨_, rfl⟩
    obtain ⟨Y, hY⟩ : ∃ Y, Y = d * 2 ^ s := ⟨_, rfl⟩
    obtain ⟨V, hV⟩ : ∃ V, V = (l * 2 ^ s) % 18446744073709551616 := ⟨_, rfl⟩
    rw [← hU, ← hV] at hsp
    rw [← hU, ← hY] at hUY
    rw [← hY] at hlo hhi
    have hVl : V < 18446744073709551616 := by rw [hV]; exact Nat.mod_lt _ (by omega)
    have hsI : Lib.bitLen ((d : Int).toNat) + s = 64 := by rw [Int.toNat_natCast]; exact hs
    have hYI : (d : Int) * 2 ^ s = (Y : Int) := by rw [hY, Int.natCast_mul, e2]
    refine (div64_high (h : Int) (l : Int) (d : Int) w (by omega) (by omega) (by omega) (by omega) (by omega) s hsI (Y : Int) ((Y / 4294967296 : Nat) : Int) ((Y % 4294967296 : Nat) : Int) (U : Int) (V : Int) ((V / 4294967296 : Nat) : Int) ((V % 4294967296 : Nat) : Int)
      hYI (by omega) (by omega) (by omega) (by omega) (by omega) (by rw [and_low32 _ (by omega) (by omega)]; omega) (by rw [hU]; exact or_parts h l s (by omega) (by omega) hhs) (by omega) (by omega) (by rw [← e2, ← Int.natCast_mul]; omega) (by rw [← e2, ← Int.natCast_mul]; omega)
      (by rw [hV, IntKind.wrap_u64, Int.natCast_emod, Int.natCast_mul, e2]; rfl) (by omega) (by omega) (by omega) (by omega) (by omega) (by rw [and_low32 _ (by omega) (by omega)]; omega)).mono ?_
    rintro e w' ⟨rfl, hb⟩
    refine ⟨?_, hb⟩
    have e1 : ((U : Int) * 18446744073709551616 + (V : Int)) = (((h * 18446744073709551616 + l) * 2 ^ s : Nat) : Int) := by rw [← hsp]; simp
    have q1 : (U * 18446744073709551616 + V) / Y = (h * 18446744073709551616 + l) / d := by rw [hsp, hY]; exact Nat.mul_div_mul_right _ _ hpow
    have q2 : (U * 18446744073709551616 + V) % Y / 2 ^ s = (h * 18446744073709551616 + l) % d := by rw [hsp, hY, Nat.mul_mod_mul_right]; exact Nat.mul_div_cancel _ hpow
    rw [← q1, ← q2]
    simp
end Go.Proofs.Ytfbipghjhngncaa
