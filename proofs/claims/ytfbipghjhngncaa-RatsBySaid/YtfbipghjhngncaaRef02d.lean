/- countinghouseref02: Fits, Compare. -/
import Derived.Test.YtfbipghjhngncaaRef02c
import Derived.Test.YtfbipghjhngncaaLawRatsFits
namespace Go.Proofs.Ytfbipghjhngncaa
open Go.RowKit
set_option linter.unusedSimpArgs false
set_option linter.unusedVariables false
attribute [local go_sem high] bitsA_get wholeA_get wholeA_part1 run_field1

/-- So much fits just where what it comes to, raised, is a at most. -/
theorem fit_iff {t a n d : Int} (ht : 0 ≤ t) (ha : 0 ≤ a) (a1 : a ≤ 9223372036854775807) (hm : mayB n d = true) : (upE t n d = 0 ∧ upN t n d ≤ a) ↔ t ≤ a * d / n := by
  obtain ⟨p1, p2, p3, p4⟩ := may_facts hm
  have hb : ¬ badBy t n d := by unfold badBy; omega
  have e1 : upE t n d = err64 (raised (t * n) d) := if_neg hb
  have e2 : upN t n d = num64 (raised (t * n) d) := if_neg hb
  have h0 : 0 ≤ raised (t * n) d := by
    have h : 0 ≤ t * n / d := Int.ediv_nonneg (Int.mul_nonneg ht (by omega)) (by omega)
    unfold raised; split <;> omega
  have h1 : raised (t * n) d ≤ a ↔ t ≤ a * d / n := by
    rw [raised_le (by omega), Int.le_ediv_iff_mul_le (by omega)]
  rw [e1, e2, ← h1]
  by_cases hx : raised (t * n) d ≤ 9223372036854775807
  · rw [(num64_in (by omega) hx).1, (num64_in (by omega) hx).2]; omega
  · rw [(num64_out (n := raised (t * n) d) (by omega)).2]; omega
def Pow2 (S : Int) : Prop := ∃ j : Nat, S = 2 ^ j
theorem pow2_half {S : Int} (h : Pow2 S) : S = 1 ∨ (Pow2 (S / 2) ∧ 2 * (S / 2) = S) := by
  obtain ⟨j, rfl⟩ := h
  rcases j with _ | j
  · exact .inl rfl
  · refine .inr ⟨⟨j, ?_⟩, ?_⟩ <;> rw [Int.pow_succ] <;> omega
def FitInv (F y S : Int) : Prop := 0 ≤ y ∧ y ≤ F ∧ ((S = 0 ∧ y = F) ∨ (1 ≤ S ∧ S ≤ 1099511627776 ∧ F < y + 2 * S ∧ Pow2 S))
theorem fit_more {F y S : Int} (h : FitInv F y S) (hS : 1 ≤ S) (hle : y + S ≤ F) : FitInv F (y + S) (S / 2) := by
  obtain ⟨h1, h2, h3⟩ := h
  rcases h3 with ⟨h3, _⟩ | ⟨_, h4, h5, h6⟩
  · omega
  · refine ⟨by omega, hle, ?_⟩
    rcases pow2_half h6 with rfl | ⟨h7, h8⟩
    · exact .inl ⟨rfl, by omega⟩
    · exact .inr ⟨by omega, by omega, by omega, h7⟩
theorem fit_less {F y S : Int} (h : FitInv F y S) (hS : 1 ≤ S) (hle : F < y + S) : FitInv F y (S / 2) := by
  obtain ⟨h1, h2, h3⟩ := h
  rcases h3 with ⟨h3, _⟩ | ⟨_, h4, h5, h6⟩
  · omega
  · refine ⟨by omega, h2, ?_⟩
    rcases pow2_half h6 with rfl | ⟨h7, h8⟩
    · exact .inl ⟨rfl, by omega⟩
    · exact .inr ⟨by omega, by omega, by omega, h7⟩
set_option maxRecDepth 100000 in
set_option maxHeartbeats 2000000 in
theorem reffits_ans (a n d : Int) (ha : I64 a) (h : In64p n d) : Ans 46 #[.int .i64 a, .agg #[.int .i64 n, .int .i64 d]] (.int .i64 (fitsN a n d)) := by
  intro w
  have hm := rmay_ans n d h
  by_cases hneg : a < 0
  · have k1 : decide (a < 0) = true := by simpa using hneg
    rw [show fitsN a n d = 0 from if_pos (.inl hneg)]
    clear hneg h ha
    go_enter Try.func46, Try.ntmps46
    go_wp2_with ((with_reducible refine Ans.call (by assumption) ?_); intro _)
    go_ret
    exact ⟨rfl, (by repeat (first | exact Ext.refl _ | refine Ext.alloc ?_ _ | refine Ext.ext ?_ _ | refine Ext.drew ?_))⟩
  · have k1 : decide (a < 0) = false := by simpa using hneg
    cases hb : mayB n d
    · rw [show fitsN a n d = 0 from if_pos (.inr hb)]
      rw [hb] at hm
      clear hneg h ha hb
      go_enter Try.func46, Try.ntmps46
      go_wp2_with ((with_reducible refine Ans.call (by assumption) ?_); intro _)
      go_ret
      exact ⟨rfl, (by repeat (first | exact Ext.refl _ | refine Ext.alloc ?_ _ | refine Ext.ext ?_ _ | refine Ext.drew ?_))⟩
    · rw [hb] at hm
      have hf : fitsN a n d = min (a * d / n) 1099511627776 := if_neg (by rw [hb]; simp; omega)
      have HI := Lib.hid (fun t ht => fit_iff (t := t) ht (by omega : 0 ≤ a) ha.2 hb)
      have HU := Lib.hid (fun t (h0 : 0 ≤ t) (h1 : t ≤ 1099511627776) => (ref2up_ans t n d ⟨by omega, by omega⟩ h).to (v' := .tuple #[.int .i64 (upN t n d), .int .i64 (upE t n d)]) (by rw [hb]; rfl))
      obtain ⟨p1, p2, p3, p4⟩ := may_facts hb
      have hq : 0 ≤ a * d / n := Int.ediv_nonneg (Int.mul_nonneg (by omega) (by omega)) (by omega)
      rw [hf]
      clear hf h hb p1 p2 p3 p4 ha hneg
      generalize a * d / n = q at *
      have HS := Lib.hid (show FitInv (min q 1099511627776) 0 1099511627776 from ⟨by omega, by omega, .inr ⟨by omega, by omega, by omega, 40, rfl⟩⟩)
      generalize hF : min q 1099511627776 = F at *
      have HF := Lib.hid hF
      clear hF
      go_enter Try.func46, Try.ntmps46
      go_wp2_with ((with_reducible refine Ans.call (by assumption) ?_); intro _)
      go_loopw [5, 6] (fun y s wr => ∃ Y S : Int, y = .int .i64 Y ∧ s = .int .i64 S ∧ Hid (FitInv F Y S) ∧ ∃ d', wr = World.ext (w.alloc (.cells #[.int .i64 n, .int .i64 d] 42)) d') (fun _ s _ => (intOf s).toNat)
      case atStart => exact ⟨0, 1099511627776, rfl, rfl, HS, _, rfl⟩
      case round =>
        clear HS
        obtain ⟨Y, S, rfl, rfl, HV, d', rfl⟩ := hrel
        have hv := HV.out
        have hF := HF.out
        obtain ⟨y0, yF, hcase⟩ := hv
        rcases hcase with ⟨rfl, rfl⟩ | ⟨s1, s2, s3, s4⟩
        · clear hF
          go_wp2_with fail
          go_ret
          exact ⟨rfl, (by repeat (first | exact Ext.refl _ | refine Ext.alloc ?_ _ | refine Ext.ext ?_ _ | refine Ext.drew ?_))⟩
        · have hFle : F ≤ 1099511627776 ∧ F ≤ q := by omega
          have hFge : F = q ∨ F = 1099511627776 := by omega
          clear hF s4
          by_cases hbig : 1099511627776 < Y + S
          · have kb : decide (1099511627776 < Y + S) = true := by simpa using hbig
            have HN := Lib.hid (fit_less HV.out s1 (by omega))
            clear hFge
            go_wp2_with fail
            go_roundw
            case rel => exact ⟨Y, S / 2, rfl, rfl, HN, ext_of (by repeat (first | exact Ext.refl _ | refine Ext.alloc ?_ _ | refine Ext.ext ?_ _ | refine Ext.drew ?_))⟩
            case measure => simp [intOf]; omega
          · have kb : decide (1099511627776 < Y + S) = false := by simpa using hbig
            have hu := HU.out (Y + S) (by omega) (by omega)
            have hi := HI.out (Y + S) (by omega)
            generalize upN (Y + S) n d = u at *
            generalize upE (Y + S) n d = e at *
            by_cases hfit : Y + S ≤ q
            · have hh := hi.2 hfit
              have ke : (e == 0) = true := by simpa using hh.1
              have ku : decide (u ≤ a) = true := by simpa using hh.2
              have HN := Lib.hid (fit_more HV.out s1 (by omega))
              clear hi hh hFge
              go_wp2_with ((with_reducible refine Ans.call (by assumption) ?_); intro _)
              go_roundw
              case rel => exact ⟨Y + S, S / 2, rfl, rfl, HN, ext_of (by repeat (first | exact Ext.refl _ | refine Ext.alloc ?_ _ | refine Ext.ext ?_ _ | refine Ext.drew ?_))⟩
              case measure => simp [intOf]; omega
            · have HN := Lib.hid (fit_less HV.out s1 (by omega))
              by_cases he : e = 0
              · have ke : (e == 0) = true := by simpa using he
                have ku : decide (u ≤ a) = false := by simp; omega
                clear hi he hFge
                go_wp2_with ((with_reducible refine Ans.call (by assumption) ?_); intro _)
                go_roundw
                case rel => exact ⟨Y, S / 2, rfl, rfl, HN, ext_of (by repeat (first | exact Ext.refl _ | refine Ext.alloc ?_ _ | refine Ext.ext ?_ _ | refine Ext.drew ?_))⟩
                case measure => simp [intOf]; omega
              · have ke : (e == 0) = false := by simpa using he
                clear hi he hFge
                go_wp2_with ((with_reducible refine Ans.call (by assumption) ?_); intro _)
                go_roundw
                case rel => exact ⟨Y, S / 2, rfl, rfl, HN, ext_of (by repeat (first | exact Ext.refl _ | refine Ext.alloc ?_ _ | refine Ext.ext ?_ _ | refine Ext.drew ?_))⟩
                case measure => simp [intOf]; omega
end Go.Proofs.Ytfbipghjhngncaa
