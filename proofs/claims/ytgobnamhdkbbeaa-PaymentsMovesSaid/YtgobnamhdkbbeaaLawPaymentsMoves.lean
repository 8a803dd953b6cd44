/- PaymentsMoves: its walk. -/
import Derived.Test.YtgobnamhdkbbeaaPay9r
import Derived.Test.YtgobnamhdkbbeaaLawPaymentsBack
import Derived.Test.YtgobnamhdkbbeaaPayGPart15
namespace Go.Proofs.Ytgobnamhdkbbeaa
open Go.RowKit
set_option linter.unusedSimpArgs false
set_option linter.unusedVariables false
structure MovC (W : World) (l : List Thing) (i : Value) (wr : World) : Prop where
  out : ∃ a : Nat, i = .int .u8 (a : Int) ∧ 1 ≤ a ∧ a ≤ 9 ∧ Heap W l wr
set_option maxRecDepth 100000
set_option maxHeartbeats 8000000
theorem paymentsMoves_great (w : World) (ea : Option Addr) (an ac : Nat) (f t c : Nat) (n : Int) (hn : 120 < an) (hm : an ≤ maxLen) :
    Calls Try.prog 7 #[.slice ea an ac, .agg (ask9 f t c n)] w fun e w' => e = .returned (.bool true) ∧ Below w.heap.size w w' := by
  have H := Heap.start w
  have hcnt : 120 < (an : Int) := by omega
  unfold maxLen at hm
  go_enter Try.func7, Try.ntmps7
  go_wp2_with (first | go_skip | ((with_reducible show wpList _ _ _ (_ :: _) _ _); (with_reducible apply wpl_boxRH); (· rfl); (· rfl); (· exact H); (clear H; intro px _ H); (simp only [Act.put, List.setIfInBounds_toArray, List.set_cons_zero, List.set_cons_succ])))
  refine (lives09_H H).mono ?_
  clear H
  rintro e w7 ⟨rfl, H⟩
  go_wp2_with (go_skip)
  go_ret
  exact ⟨rfl, H.low⟩
theorem paymentsMoves_main (w : World) (ea : Option Addr) (an ac : Nat) (F : List LAct) (f t c : Nat) (n : Int) (hl : F.length = an) (hn : an ≤ 120) (hF : ∀ x ∈ F, ActOk x) (R : Rd w ea (actL F)) (o0 : f ≤ 255) (o1 : t ≤ 255) (o2 : c ≤ 255) (o3 : -9223372036854775808 ≤ n ∧ n ≤ 9223372036854775807) :
    Calls Try.prog 7 #[.slice ea an ac, .agg (ask9 f t c n)] w fun e w' => e = .returned (.bool true) ∧ Below w.heap.size w w' := by
  have H := Heap.start w
  have hcnt : ¬ (120 < (an : Int)) := by omega
  have HR := Lib.hid R
  have HL := Lib.hid hl
  have HF := Lib.hid hF
  have HO := Lib.hid o3
  clear R hl hF o3
  go_enter Try.func7, Try.ntmps7
  go_wp2_with (first | go_skip | ((with_reducible show wpList _ _ _ (_ :: _) _ _); (with_reducible apply wpl_boxRH); (· rfl); (· rfl); (· exact H); (clear H; intro px _ H); (simp only [Act.put, List.setIfInBounds_toArray, List.set_cons_zero, List.set_cons_succ])))
  refine (made_H ea an ac F HL.out hn HF.out (fun l' w' _ H' => HR.out.below H'.low) H).mono ?_
  clear H
  rintro e w1 ⟨p, q, rfl, H⟩
  have HG := Lib.hid (madeS_good F)
  generalize hS : madeS F = S at *
  clear hS
  go_wp2_with (go_skip)
  refine (lcopy_H (p := p) (q := q) (P := S.P) (S := S) H (by (repeat (first | (with_reducible exact List.mem_cons_self) | with_reducible apply List.mem_cons_of_mem))) (by (repeat (first | (with_reducible exact List.mem_cons_self) | with_reducible apply List.mem_cons_of_mem)))).mono ?_
  clear H
  rintro e w2 ⟨p', q', rfl, H⟩
  replace H := H.top2 (.there (.there .here)) (.there (.there .here))
  go_wp2_with (first | go_skip | ((with_reducible show wpList _ _ _ (_ :: _) _ _); (with_reducible apply wpl_loadCH); (· first | exact cell_party | exact cell_cur | exact cell_i64); (· rfl); (· rfl); (· exact H); (· (repeat (first | (with_reducible exact List.mem_cons_self) | with_reducible apply List.mem_cons_of_mem))); (· (with_reducible first | exact ask9_g0 .. | exact ask9_g1 .. | exact ask9_g2 .. | exact ask9_g3 ..)); (simp only [Act.put, List.setIfInBounds_toArray, List.set_cons_zero, List.set_cons_succ])))
  refine (payMost_H (p := p) (q := q) (S := S) f t c o0 o1 o2 HG.out (by (repeat (first | (with_reducible exact List.mem_cons_self) | with_reducible apply List.mem_cons_of_mem))) (by (repeat (first | (with_reducible exact List.mem_cons_self) | with_reducible apply List.mem_cons_of_mem))) H).mono ?_
  clear H
  rintro e w3 ⟨Q0, most, rfl, hm, H⟩
  have HM := Lib.hid hm
  clear hm
  go_wp2_with (first | go_skip | ((with_reducible show wpList _ _ _ (_ :: _) _ _); (with_reducible apply wpl_loadCH); (· first | exact cell_party | exact cell_cur | exact cell_i64); (· rfl); (· rfl); (· exact H); (· (repeat (first | (with_reducible exact List.mem_cons_self) | with_reducible apply List.mem_cons_of_mem))); (· (with_reducible first | exact ask9_g0 .. | exact ask9_g1 .. | exact ask9_g2 .. | exact ask9_g3 ..)); (simp only [Act.put, List.setIfInBounds_toArray, List.set_cons_zero, List.set_cons_succ])))
  refine (pay_H (p := p) (q := q) (S := S) f t c n o0 o1 o2 HO.out HG.out H).mono ?_
  clear H
  rintro e w4 ⟨k1, e1, S1, rfl, hp1, H⟩
  have HP1 := Lib.hid hp1
  clear hp1
  by_cases h0 : e1 = 0
  · subst h0
    obtain ⟨hb, hnm, hk1, g1, hnd, hpos⟩ := pay_moved HG.out HP1.out HM.out
    have he := pay_ends hb
    have HG1 := Lib.hid g1
    have HPOS := Lib.hid hpos
    have hn1 := he.2.2.2.1
    have hn2 := he.2.2.2.2.2.2.2.2.2.2
    have hne := he.2.2.1
    have SA := AnsH.on H (sound_A (p := p) (q := q) (p2 := p') (q2 := q') (S := S1) (S2 := S) HG1.out HG.out .here .here (.there (.there .here)) (.there (.there .here)) hnd)
    have d1 : decide (most < n) = false := decide_eq_false (by omega)
    have d2 : decide (n < 1) = false := decide_eq_false (by omega)
    have d3 : decide (k1 < 1) = false := decide_eq_false (by omega)
    clear hb he g1 hpos hnd HP1 HM
    go_wp2_with (first | go_skip | ((with_reducible refine AnsH.call (by assumption) H ?_); clear H; intro _ H) | ((with_reducible show wpList _ _ _ (_ :: _) _ _); (with_reducible apply wpl_loadCH); (· first | exact cell_party | exact cell_cur | exact cell_i64); (· rfl); (· rfl); (· exact H); (· (repeat (first | (with_reducible exact List.mem_cons_self) | with_reducible apply List.mem_cons_of_mem))); (· (with_reducible first | exact ask9_g0 .. | exact ask9_g1 .. | exact ask9_g2 .. | exact ask9_g3 ..)); (simp only [Act.put, List.setIfInBounds_toArray, List.set_cons_zero, List.set_cons_succ])))
    clear SA d1 d2 d3 hnm hk1
    have H0 := H
    clear H
    go_loopw [13] (fun i wr => MovC w [LdC p S1.P (some q), LdM q S1.L, LdC p' S.P (some q'), LdM q' S.L, Cel px (ask9 f t c n) 43] i wr) (fun i _ => 9 - (intOf i).toNat)
    case atStart => exact ⟨1, rfl, by omega, by omega, H0⟩
    case round =>
      obtain ⟨d, rfl, hd1, hd2, H⟩ := hrel.out
      clear H0 hrel
      by_cases hlt : d < 9
      · have g1 : decide ((d : Int) ≤ 8) = true := by simp; omega
        go_wp2_with (go_skip)
        have H0 := H
        clear H
        go_loopw [14] (fun i wr => MovR w [LdC p S1.P (some q), LdM q S1.L, LdC p' S.P (some q'), LdM q' S.L, Cel px (ask9 f t c n) 43] i wr) (fun i _ => 17 - (intOf i).toNat)
        case atStart => exact ⟨1, rfl, by omega, by omega, H0⟩
        case round =>
          obtain ⟨a, rfl, ha1, ha2, H⟩ := hrel.out
          clear H0 hrel
          by_cases hlt2 : a < 17
          · have g2 : decide ((a : Int) ≤ 16) = true := by simp; omega
            by_cases q1 : d = c
            · subst q1
              have b1 : ((d : Int) == (d : Int)) = true := by simp
              by_cases q2 : a = f
              · subst q2
                have b2 : ((a : Int) == (a : Int)) = true := by simp
                have b3 : ((a : Int) == (t : Int)) = false := by simp; omega
                have w1 : wrap64 (-n) = -n := IntWalk.wrap64_in _ ⟨by omega, by omega⟩
                have MA := AnsH.on H (moved_A (p := p) (q := q) (p2 := p') (q2 := q') (S := S1) (S2 := S) a d (-n) HG1.out HG.out .here .here (.there (.there .here)) (.there (.there .here)) (by omega) (by have := HPOS.out d a; rw [if_pos (rfl : d = d), if_neg (by omega), if_pos (rfl : a = a)] at this; omega))
                go_wp2_with (first | go_skip | ((with_reducible refine AnsH.call (by assumption) H ?_); clear H; intro _ H) | ((with_reducible show wpList _ _ _ (_ :: _) _ _); (with_reducible apply wpl_loadCH); (· first | exact cell_party | exact cell_cur | exact cell_i64); (· rfl); (· rfl); (· exact H); (· (repeat (first | (with_reducible exact List.mem_cons_self) | with_reducible apply List.mem_cons_of_mem))); (· (with_reducible first | exact ask9_g0 .. | exact ask9_g1 .. | exact ask9_g2 .. | exact ask9_g3 ..)); (simp only [Act.put, List.setIfInBounds_toArray, List.set_cons_zero, List.set_cons_succ])))
                refine ⟨⟨a + 1, by go_num, by omega, by omega, H⟩, ?measure1⟩
                case measure1 => simp [intOf]; omega
              · have b2 : ((a : Int) == (f : Int)) = false := by simp; omega
                by_cases q3 : a = t
                · subst q3
                  have b3 : ((a : Int) == (a : Int)) = true := by simp
                  have MA := AnsH.on H (moved_A (p := p) (q := q) (p2 := p') (q2 := q') (S := S1) (S2 := S) a d (n) HG1.out HG.out .here .here (.there (.there .here)) (.there (.there .here)) (by omega) (by have := HPOS.out d a; rw [if_pos (rfl : d = d), if_pos (rfl : a = a), if_neg (by omega)] at this; omega))
                  go_wp2_with (first | go_skip | ((with_reducible refine AnsH.call (by assumption) H ?_); clear H; intro _ H) | ((with_reducible show wpList _ _ _ (_ :: _) _ _); (with_reducible apply wpl_loadCH); (· first | exact cell_party | exact cell_cur | exact cell_i64); (· rfl); (· rfl); (· exact H); (· (repeat (first | (with_reducible exact List.mem_cons_self) | with_reducible apply List.mem_cons_of_mem))); (· (with_reducible first | exact ask9_g0 .. | exact ask9_g1 .. | exact ask9_g2 .. | exact ask9_g3 ..)); (simp only [Act.put, List.setIfInBounds_toArray, List.set_cons_zero, List.set_cons_succ])))
                  refine ⟨⟨a + 1, by go_num, by omega, by omega, H⟩, ?measure2⟩
                  case measure2 => simp [intOf]; omega
                · have b3 : ((a : Int) == (t : Int)) = false := by simp; omega
                  have MA := AnsH.on H (moved_A (p := p) (q := q) (p2 := p') (q2 := q') (S := S1) (S2 := S) a d (0) HG1.out HG.out .here .here (.there (.there .here)) (.there (.there .here)) (by omega) (by have := HPOS.out d a; rw [if_pos (rfl : d = d), if_neg (by omega), if_neg (by omega)] at this; omega))
                  go_wp2_with (first | go_skip | ((with_reducible refine AnsH.call (by assumption) H ?_); clear H; intro _ H) | ((with_reducible show wpList _ _ _ (_ :: _) _ _); (with_reducible apply wpl_loadCH); (· first | exact cell_party | exact cell_cur | exact cell_i64); (· rfl); (· rfl); (· exact H); (· (repeat (first | (with_reducible exact List.mem_cons_self) | with_reducible apply List.mem_cons_of_mem))); (· (with_reducible first | exact ask9_g0 .. | exact ask9_g1 .. | exact ask9_g2 .. | exact ask9_g3 ..)); (simp only [Act.put, List.setIfInBounds_toArray, List.set_cons_zero, List.set_cons_succ])))
                  refine ⟨⟨a + 1, by go_num, by omega, by omega, H⟩, ?measure3⟩
                  case measure3 => simp [intOf]; omega
            · have b1 : ((d : Int) == (c : Int)) = false := by simp; omega
              have MA := AnsH.on H (moved_A (p := p) (q := q) (p2 := p') (q2 := q') (S := S1) (S2 := S) a d (0) HG1.out HG.out .here .here (.there (.there .here)) (.there (.there .here)) (by omega) (by have := HPOS.out d a; rw [if_neg (by omega)] at this; omega))
              go_wp2_with (first | go_skip | ((with_reducible refine AnsH.call (by assumption) H ?_); clear H; intro _ H) | ((with_reducible show wpList _ _ _ (_ :: _) _ _); (with_reducible apply wpl_loadCH); (· first | exact cell_party | exact cell_cur | exact cell_i64); (· rfl); (· rfl); (· exact H); (· (repeat (first | (with_reducible exact List.mem_cons_self) | with_reducible apply List.mem_cons_of_mem))); (· (with_reducible first | exact ask9_g0 .. | exact ask9_g1 .. | exact ask9_g2 .. | exact ask9_g3 ..)); (simp only [Act.put, List.setIfInBounds_toArray, List.set_cons_zero, List.set_cons_succ])))
              refine ⟨⟨a + 1, by go_num, by omega, by omega, H⟩, ?measure4⟩
              case measure4 => simp [intOf]; omega
          · obtain rfl : a = 17 := by omega
            have g2 : decide (((17 : Nat) : Int) ≤ 16) = false := by decide
            go_wp2_with (go_skip)
            refine ⟨⟨d + 1, by go_num, by omega, by omega, H⟩, ?measure9⟩
            case measure9 => simp [intOf]; omega
      · obtain rfl : d = 9 := by omega
        have g1 : decide (((9 : Nat) : Int) ≤ 8) = false := by decide
        go_wp2_with (go_skip)
        refine (lives09_H H).mono ?_
        clear H
        rintro e w7 ⟨rfl, H⟩
        go_wp2_with (go_skip)
        go_ret
        exact ⟨rfl, H.low⟩
  · obtain ⟨rfl, rfl, hcase⟩ := pay_err HP1.out h0
    have b0 : (e1 != 0) = true := by simpa using h0
    have HCS := Lib.hid hcase
    have hfew := HG.out.few
    clear h0 hcase
    go_wp2_with (go_skip)
    refine (llinesN (p := p) (q := q) (S := S1) HG.out .here .here H).mono ?_
    clear H
    rintro e w5 ⟨g1, c1, rfl, _, _, H⟩
    obtain ⟨nl, hnl⟩ : ∃ nl, S1.L.length = nl := ⟨_, rfl⟩
    have HNL := Lib.hid hnl
    rw [hnl] at hfew
    go_wp2_with (go_skip)
    refine (llinesN (p := p') (q := q') (S := S1) HG.out (.there (.there (.there .here))) (.there (.there (.there .here))) H).mono ?_
    clear H
    rintro e w6 ⟨g2, c2, rfl, _, _, H⟩
    rw [hnl] at H ⊢
    clear hnl
    have SL := AnsH.on H (sameLines_P (W := w) (A := S1.L) (B := S1.L) (some ⟨g1, 0, none⟩) (some ⟨g2, 0, none⟩) nl nl c1 c2 HNL.out HNL.out (by omega) (by omega) (fun w' h => h.rowRd (by (repeat (first | (with_reducible exact List.mem_cons_self) | with_reducible apply List.mem_cons_of_mem)) : RowT 84 5 (.slice (some ⟨g1, 0, none⟩) nl c1) nl (linL S1.L) ∈ _)) (fun w' h => h.rowRd (by (repeat (first | (with_reducible exact List.mem_cons_self) | with_reducible apply List.mem_cons_of_mem)) : RowT 84 5 (.slice (some ⟨g2, 0, none⟩) nl c2) nl (linL S1.L) ∈ _)))
    rw [decide_eq_true rfl] at SL
    rcases HCS.out with rfl | ⟨rfl, hin⟩ | rfl
    · clear HP1 HCS
      go_wp2_with (first | go_skip | ((with_reducible refine AnsH.call (by assumption) H ?_); clear H; intro _ H))
      refine (lives09_H H).mono ?_
      clear H
      rintro e w7 ⟨rfl, H⟩
      go_wp2_with (go_skip)
      go_ret
      exact ⟨rfl, H.low⟩
    · have L1 := AnsH.on H (lhas_H (p := p') (q := q') (P := S1.P) f o0 (by (repeat (first | (with_reducible exact List.mem_cons_self) | with_reducible apply List.mem_cons_of_mem))) HG.out.par1)
      have L2 := AnsH.on H (lhas_H (p := p') (q := q') (P := S1.P) t o1 (by (repeat (first | (with_reducible exact List.mem_cons_self) | with_reducible apply List.mem_cons_of_mem))) HG.out.par1)
      by_cases i1 : (f : Int) ∈ S1.P
      · have i2 : (t : Int) ∉ S1.P := hin.resolve_left (fun h => h i1)
        rw [show hasP S1.P (f : Int) = true from decide_eq_true i1] at L1
        rw [show hasP S1.P (t : Int) = false from decide_eq_false i2] at L2
        clear HP1 HCS hin i1 i2
        go_wp2_with (first | go_skip | ((with_reducible refine AnsH.call (by assumption) H ?_); clear H; intro _ H) | ((with_reducible show wpList _ _ _ (_ :: _) _ _); (with_reducible apply wpl_loadCH); (· first | exact cell_party | exact cell_cur | exact cell_i64); (· rfl); (· rfl); (· exact H); (· (repeat (first | (with_reducible exact List.mem_cons_self) | with_reducible apply List.mem_cons_of_mem))); (· (with_reducible first | exact ask9_g0 .. | exact ask9_g1 .. | exact ask9_g2 .. | exact ask9_g3 ..)); (simp only [Act.put, List.setIfInBounds_toArray, List.set_cons_zero, List.set_cons_succ])))
        refine (lives09_H H).mono ?_
        clear H
        rintro e w7 ⟨rfl, H⟩
        go_wp2_with (go_skip)
        go_ret
        exact ⟨rfl, H.low⟩
      · rw [show hasP S1.P (f : Int) = false from decide_eq_false i1] at L1
        clear HP1 HCS hin i1 L2
        go_wp2_with (first | go_skip | ((with_reducible refine AnsH.call (by assumption) H ?_); clear H; intro _ H) | ((with_reducible show wpList _ _ _ (_ :: _) _ _); (with_reducible apply wpl_loadCH); (· first | exact cell_party | exact cell_cur | exact cell_i64); (· rfl); (· rfl); (· exact H); (· (repeat (first | (with_reducible exact List.mem_cons_self) | with_reducible apply List.mem_cons_of_mem))); (· (with_reducible first | exact ask9_g0 .. | exact ask9_g1 .. | exact ask9_g2 .. | exact ask9_g3 ..)); (simp only [Act.put, List.setIfInBounds_toArray, List.set_cons_zero, List.set_cons_succ])))
        refine (lives09_H H).mono ?_
        clear H
        rintro e w7 ⟨rfl, H⟩
        go_wp2_with (go_skip)
        go_ret
        exact ⟨rfl, H.low⟩
    · obtain ⟨hb, hf, ht, hm0, hmn⟩ := pay_stuck HG.out HP1.out HM.out
      have he := pay_ends hb
      have HE := Lib.hid (And.intro hb (And.intro hf ht))
      have hn2 := he.2.2.2.2.2.2.2.2.2.2
      have ht16 := he.2.2.2.2.2.2.2.1
      have hf1 := he.2.2.2.2.1
      have hf16 := he.2.2.2.2.2.1
      have HE2 := Lib.hid he
      have d1 : decide (most ≥ n) = false := decide_eq_false (by omega)
      have d2 : decide (n ≤ most) = false := decide_eq_false (by omega)
      have d3 : decide (most < 0) = false := decide_eq_false (by omega)
      clear hb hf ht he HP1 HCS
      by_cases hmp : 0 < most
      · have d4 : decide (most > 0) = true := decide_eq_true hmp
        have HMB := Lib.hid (show -9223372036854775808 ≤ most ∧ most ≤ 9223372036854775807 by omega)
        have HML := Lib.hid (And.intro hmp hmn)
        go_wp2_with (first | go_skip | ((with_reducible refine AnsH.call (by assumption) H ?_); clear H; intro _ H) | ((with_reducible show wpList _ _ _ (_ :: _) _ _); (with_reducible apply wpl_loadCH); (· first | exact cell_party | exact cell_cur | exact cell_i64); (· rfl); (· rfl); (· exact H); (· (repeat (first | (with_reducible exact List.mem_cons_self) | with_reducible apply List.mem_cons_of_mem))); (· (with_reducible first | exact ask9_g0 .. | exact ask9_g1 .. | exact ask9_g2 .. | exact ask9_g3 ..)); (simp only [Act.put, List.setIfInBounds_toArray, List.set_cons_zero, List.set_cons_succ])))
        clear SL
        replace H := H.tail.tail
        refine (pay_H (p := p) (q := q) (S := S1) f t c most o0 o1 o2 HMB.out HG.out H).mono ?_
        clear H
        rintro e w8 ⟨k2, e2, S2, rfl, hp2, H⟩
        obtain ⟨rfl, g2, Q2, hq2, hcaps⟩ := pay_most HG.out HE.out.1 HE.out.2.1 HE.out.2.2 (by have := HML.out.1; omega) HML.out.2 HM.out hp2
        have HG2 := Lib.hid g2
        have HQ2 := Lib.hid (And.intro hq2 hcaps)
        clear hp2 g2 hq2 hcaps d1 d2 d3 d4
        go_wp2_with (go_skip)
        refine wp_region_K0 [3, 6] [0, 1, 2, 4, 5, 3, 6, 7] H (by kernel_rfl) (by kernel_rfl) ?_
        iterate 5 (apply wpK_step; (· rfl); (· rfl); (· rfl); (· exact Nat.le_of_ble_eq_true rfl); (· intro l0 hs0 w0 H0; (first | go_big_quiet_skip | ((with_reducible apply wpQ_loadCH); (· first | exact cell_party | exact cell_cur | exact cell_i64); (· rfl); (· rfl); (· exact hs0 _ (by (repeat (first | (with_reducible exact List.mem_cons_self) | with_reducible apply List.mem_cons_of_mem)))); (· (with_reducible first | exact ask9_g0 .. | exact ask9_g1 .. | exact ask9_g2 .. | exact ask9_g3 ..)); (simp only [Act.put, List.setIfInBounds_toArray, List.set_cons_zero, List.set_cons_succ])) | go_big_quiet_step (fail)); (refine wpQuiet_nil ?_); (simp only [Array.getD_eq_getD_getElem?, List.getElem?_toArray, List.getElem?_cons_succ, List.getElem?_cons_zero, Option.getD_some]; rfl)); (simp only [Act.put, List.setIfInBounds_toArray, List.set_cons_zero, List.set_cons_succ]))
        refine wpK_call (f := 14) (argl := [.pointer (some ⟨p, 0, none⟩), .int .u8 (c : Int)]) rfl rfl rfl Try.call14 rfl ?_
        intro w0 H0
        refine (of_H (p := p) (q := q) (S := S2) c o2 HG2.out H0 (by (repeat (first | (with_reducible exact List.mem_cons_self) | with_reducible apply List.mem_cons_of_mem))) (by (repeat (first | (with_reducible exact List.mem_cons_self) | with_reducible apply List.mem_cons_of_mem)))).mono ?_
        clear H0
        rintro e w9 ⟨gg, rfl, H1⟩
        refine ⟨_, _, rfl, H1, _, fun t ht => List.mem_cons_of_mem _ ht, Keeps.refl _, ?_⟩
        clear H1
        (simp only [Act.put, List.setIfInBounds_toArray, List.set_cons_zero, List.set_cons_succ])
        refine wpK_call (f := 34) (argl := [.pointer (some ⟨gg, 0, none⟩), .int .u8 (f : Int)]) rfl rfl rfl Try.call34 rfl ?_
        intro w0 H0
        refine (reached_H (p := gg) (capsS S2 c) f hf1 hf16 (capsS_play HG2.out c) (by (repeat (first | (with_reducible exact List.mem_cons_self) | with_reducible apply List.mem_cons_of_mem))) H0).mono ?_
        clear H0
        rintro e w10 ⟨M, rfl, hM, H1⟩
        rw [HQ2.out.2] at hM
        have hst := pay_stop HG.out HE2.out.1 HE2.out.2.1 HE2.out.2.2.1 HM.out HQ2.out.1 hM
        have HST := Lib.hid hst
        clear hM hst
        refine ⟨_, _, rfl, H1, _, Keeps.refl _, Keeps.refl _, ?_⟩
        clear H1
        (simp only [Act.put, List.setIfInBounds_toArray, List.set_cons_zero, List.set_cons_succ])
        (apply wpK_step; (· rfl); (· rfl); (· rfl); (· exact Nat.le_of_ble_eq_true rfl); (· intro l0 hs0 w0 H0; (first | go_big_quiet_skip | fail | go_big_quiet_step (fail)); (refine wpQuiet_nil ?_); (simp only [Array.getD_eq_getD_getElem?, List.getElem?_toArray, List.getElem?_cons_succ, List.getElem?_cons_zero, Option.getD_some]; rfl)); (simp only [Act.put, List.setIfInBounds_toArray, List.set_cons_zero, List.set_cons_succ]))
        (refine wpK_nil ?_; clear H; intro _ H)
        have e8 := bit_0 M t
        rw [HST.out.1] at e8
        go_wp2_with (first | go_skip | ((with_reducible show wpList _ _ _ (_ :: _) _ _); (with_reducible apply wpl_loadCH); (· first | exact cell_party | exact cell_cur | exact cell_i64); (· rfl); (· rfl); (· exact H); (· (repeat (first | (with_reducible exact List.mem_cons_self) | with_reducible apply List.mem_cons_of_mem))); (· (with_reducible first | exact ask9_g0 .. | exact ask9_g1 .. | exact ask9_g2 .. | exact ask9_g3 ..)); (simp only [Act.put, List.setIfInBounds_toArray, List.set_cons_zero, List.set_cons_succ])))
        refine (of_H (p := p') (q := q') (S := S1) c o2 HG.out H (by (repeat (first | (with_reducible exact List.mem_cons_self) | with_reducible apply List.mem_cons_of_mem))) (by (repeat (first | (with_reducible exact List.mem_cons_self) | with_reducible apply List.mem_cons_of_mem)))).mono ?_
        clear H
        rintro e w11 ⟨gw, rfl, H⟩
        have CC := AnsH.on H (cut_H (p := gw) (capsS S1 c) M most (capsS_play HG.out c) (by (repeat (first | (with_reducible exact List.mem_cons_self) | with_reducible apply List.mem_cons_of_mem))))
        rw [decide_eq_true HST.out.2] at CC
        go_wp2_with (first | go_skip | ((with_reducible refine AnsH.call (by assumption) H ?_); clear H; intro _ H))
        refine (lives09_H H).mono ?_
        clear H
        rintro e w12 ⟨rfl, H⟩
        go_wp2_with (go_skip)
        go_ret
        exact ⟨rfl, H.low⟩
      · have d4 : decide (most > 0) = false := decide_eq_false hmp
        obtain rfl : most = 0 := by omega
        have HG2 := Lib.hid HG.out
        have HQ2 := Lib.hid (show RouteOut f t (capsS S1 c) 0 [] 0 ∧ capsS S1 c = pushL (capsS S1 c) [] from pay_zero)
        go_wp2_with (first | go_skip | ((with_reducible refine AnsH.call (by assumption) H ?_); clear H; intro _ H) | ((with_reducible show wpList _ _ _ (_ :: _) _ _); (with_reducible apply wpl_loadCH); (· first | exact cell_party | exact cell_cur | exact cell_i64); (· rfl); (· rfl); (· exact H); (· (repeat (first | (with_reducible exact List.mem_cons_self) | with_reducible apply List.mem_cons_of_mem))); (· (with_reducible first | exact ask9_g0 .. | exact ask9_g1 .. | exact ask9_g2 .. | exact ask9_g3 ..)); (simp only [Act.put, List.setIfInBounds_toArray, List.set_cons_zero, List.set_cons_succ])))
        clear SL d1 d2 d3 d4
        replace H := H.tail.tail
        refine wp_region_K0 [3, 6] [0, 1, 2, 4, 5, 3, 6, 7] H (by kernel_rfl) (by kernel_rfl) ?_
        iterate 5 (apply wpK_step; (· rfl); (· rfl); (· rfl); (· exact Nat.le_of_ble_eq_true rfl); (· intro l0 hs0 w0 H0; (first | go_big_quiet_skip | ((with_reducible apply wpQ_loadCH); (· first | exact cell_party | exact cell_cur | exact cell_i64); (· rfl); (· rfl); (· exact hs0 _ (by (repeat (first | (with_reducible exact List.mem_cons_self) | with_reducible apply List.mem_cons_of_mem)))); (· (with_reducible first | exact ask9_g0 .. | exact ask9_g1 .. | exact ask9_g2 .. | exact ask9_g3 ..)); (simp only [Act.put, List.setIfInBounds_toArray, List.set_cons_zero, List.set_cons_succ])) | go_big_quiet_step (fail)); (refine wpQuiet_nil ?_); (simp only [Array.getD_eq_getD_getElem?, List.getElem?_toArray, List.getElem?_cons_succ, List.getElem?_cons_zero, Option.getD_some]; rfl)); (simp only [Act.put, List.setIfInBounds_toArray, List.set_cons_zero, List.set_cons_succ]))
        refine wpK_call (f := 14) (argl := [.pointer (some ⟨p, 0, none⟩), .int .u8 (c : Int)]) rfl rfl rfl Try.call14 rfl ?_
        intro w0 H0
        refine (of_H (p := p) (q := q) (S := S1) c o2 HG2.out H0 (by (repeat (first | (with_reducible exact List.mem_cons_self) | with_reducible apply List.mem_cons_of_mem))) (by (repeat (first | (with_reducible exact List.mem_cons_self) | with_reducible apply List.mem_cons_of_mem)))).mono ?_
        clear H0
        rintro e w9 ⟨gg, rfl, H1⟩
        refine ⟨_, _, rfl, H1, _, fun t ht => List.mem_cons_of_mem _ ht, Keeps.refl _, ?_⟩
        clear H1
        (simp only [Act.put, List.setIfInBounds_toArray, List.set_cons_zero, List.set_cons_succ])
        refine wpK_call (f := 34) (argl := [.pointer (some ⟨gg, 0, none⟩), .int .u8 (f : Int)]) rfl rfl rfl Try.call34 rfl ?_
        intro w0 H0
        refine (reached_H (p := gg) (capsS S1 c) f hf1 hf16 (capsS_play HG2.out c) (by (repeat (first | (with_reducible exact List.mem_cons_self) | with_reducible apply List.mem_cons_of_mem))) H0).mono ?_
        clear H0
        rintro e w10 ⟨M, rfl, hM, H1⟩
        rw [HQ2.out.2] at hM
        have hst := pay_stop HG.out HE2.out.1 HE2.out.2.1 HE2.out.2.2.1 HM.out HQ2.out.1 hM
        have HST := Lib.hid hst
        clear hM hst
        refine ⟨_, _, rfl, H1, _, Keeps.refl _, Keeps.refl _, ?_⟩
        clear H1
        (simp only [Act.put, List.setIfInBounds_toArray, List.set_cons_zero, List.set_cons_succ])
        (apply wpK_step; (· rfl); (· rfl); (· rfl); (· exact Nat.le_of_ble_eq_true rfl); (· intro l0 hs0 w0 H0; (first | go_big_quiet_skip | fail | go_big_quiet_step (fail)); (refine wpQuiet_nil ?_); (simp only [Array.getD_eq_getD_getElem?, List.getElem?_toArray, List.getElem?_cons_succ, List.getElem?_cons_zero, Option.getD_some]; rfl)); (simp only [Act.put, List.setIfInBounds_toArray, List.set_cons_zero, List.set_cons_succ]))
        (refine wpK_nil ?_; clear H; intro _ H)
        have e8 := bit_0 M t
        rw [HST.out.1] at e8
        go_wp2_with (first | go_skip | ((with_reducible show wpList _ _ _ (_ :: _) _ _); (with_reducible apply wpl_loadCH); (· first | exact cell_party | exact cell_cur | exact cell_i64); (· rfl); (· rfl); (· exact H); (· (repeat (first | (with_reducible exact List.mem_cons_self) | with_reducible apply List.mem_cons_of_mem))); (· (with_reducible first | exact ask9_g0 .. | exact ask9_g1 .. | exact ask9_g2 .. | exact ask9_g3 ..)); (simp only [Act.put, List.setIfInBounds_toArray, List.set_cons_zero, List.set_cons_succ])))
        refine (of_H (p := p') (q := q') (S := S1) c o2 HG.out H (by (repeat (first | (with_reducible exact List.mem_cons_self) | with_reducible apply List.mem_cons_of_mem))) (by (repeat (first | (with_reducible exact List.mem_cons_self) | with_reducible apply List.mem_cons_of_mem)))).mono ?_
        clear H
        rintro e w11 ⟨gw, rfl, H⟩
        have CC := AnsH.on H (cut_H (p := gw) (capsS S1 c) M 0 (capsS_play HG.out c) (by (repeat (first | (with_reducible exact List.mem_cons_self) | with_reducible apply List.mem_cons_of_mem))))
        rw [decide_eq_true HST.out.2] at CC
        go_wp2_with (first | go_skip | ((with_reducible refine AnsH.call (by assumption) H ?_); clear H; intro _ H))
        refine (lives09_H H).mono ?_
        clear H
        rintro e w12 ⟨rfl, H⟩
        go_wp2_with (go_skip)
        go_ret
        exact ⟨rfl, H.low⟩
theorem paymentsMoves_law (v0 v1 : Value) (w : World) (o0 : ActsV w v0) (o1 : AskArg w v1) : Calls Try.prog 7 #[v0, v1] w fun e w' => e = .returned (.bool true) ∧ Below w.heap.size w w' := by
  obtain ⟨a, m, d, F, rfl, o0⟩ := o0
  obtain ⟨⟨f, t, c, n⟩, rfl, h1, h2, h3, h4⟩ := o1
  by_cases hn : m ≤ 120
  · exact paymentsMoves_main w a m d F f t c n o0.len hn o0.ok o0.rd h1 h2 h3 h4
  · exact paymentsMoves_great w a m d f t c n (by omega) (Nat.le_trans o0.cap o0.max)
end Go.Proofs.Ytgobnamhdkbbeaa
