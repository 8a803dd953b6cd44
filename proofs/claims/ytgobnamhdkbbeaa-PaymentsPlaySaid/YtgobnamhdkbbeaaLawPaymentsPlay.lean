/- PaymentsPlay: its walk. -/
import Derived.Test.YtgobnamhdkbbeaaOpen09L
import Derived.Test.YtgobnamhdkbbeaaDuo3
import Derived.Test.YtgobnamhdkbbeaaRef09
import Derived.Test.YtgobnamhdkbbeaaPayGPart15
namespace Go.Proofs.Ytgobnamhdkbbeaa
open Go.RowKit
set_option linter.unusedSimpArgs false
set_option linter.unusedVariables false
structure PlyR (W : World) (p q rp n : Nat) (i : Value) (wr : World) : Prop where
  out : ∃ (k : Nat) (S : Lgr), k ≤ n ∧ i = .int .i64 (k : Int) ∧ S.Good ∧ DuoH W [] p q rp S wr
set_option maxRecDepth 100000
set_option maxHeartbeats 8000000
theorem paymentsPlay_great1 (w : World) (ea eb : Option Addr) (an ac bn bc : Nat) (hn : 120 < an) (hm : an ≤ maxLen) :
    Calls Try.prog 6 #[.slice ea an ac, .slice eb bn bc] w fun e w' => e = .returned (.bool true) ∧ Below w.heap.size w w' := by
  have H := Heap.start w
  have hcnt : 120 < (an : Int) := by omega
  unfold maxLen at hm
  go_enter Try.func6, Try.ntmps6
  go_wp2_with (first | go_skip)
  refine (lives09_H H).mono ?_
  clear H
  rintro e w7 ⟨rfl, H⟩
  go_wp2_with (go_skip)
  go_ret
  exact ⟨rfl, H.low⟩
theorem paymentsPlay_great2 (w : World) (ea eb : Option Addr) (an ac bn bc : Nat) (hn : an ≤ 120) (hb : 12 < bn) (hm : bn ≤ maxLen) :
    Calls Try.prog 6 #[.slice ea an ac, .slice eb bn bc] w fun e w' => e = .returned (.bool true) ∧ Below w.heap.size w w' := by
  have H := Heap.start w
  have hcnt : ¬ (120 < (an : Int)) := by omega
  have hcnb : 12 < (bn : Int) := by omega
  unfold maxLen at hm
  go_enter Try.func6, Try.ntmps6
  go_wp2_with (first | go_skip)
  refine (lives09_H H).mono ?_
  clear H
  rintro e w7 ⟨rfl, H⟩
  go_wp2_with (go_skip)
  go_ret
  exact ⟨rfl, H.low⟩
theorem paymentsPlay_main (w : World) (ea eb : Option Addr) (an ac bn bc : Nat) (F : List LAct) (G : List Ask9) (hl : F.length = an) (hn : an ≤ 120) (hF : ∀ x ∈ F, ActOk x) (R : Rd w ea (actL F)) (gl : G.length = bn) (gn : bn ≤ 12) (hG : ∀ x ∈ G, AskOk x) (RB : Rd w eb (askL G)) :
    Calls Try.prog 6 #[.slice ea an ac, .slice eb bn bc] w fun e w' => e = .returned (.bool true) ∧ Below w.heap.size w w' := by
  have H := Heap.start w
  have hcnt : ¬ (120 < (an : Int)) := by omega
  have hcnb : ¬ (12 < (bn : Int)) := by omega
  have HR := Lib.hid (show ∀ (l' : List Thing) w', Heap w l' w' → Rd w' ea (actL F) from fun l' w' H' => R.below H'.low)
  have HRB := Lib.hid (show ∀ (l' : List Thing) w', Heap w l' w' → Rd w' eb (askL G) from fun l' w' H' => RB.below H'.low)
  have HL := Lib.hid hl
  have HLB := Lib.hid gl
  have HF := Lib.hid hF
  have HGA := Lib.hid hG
  clear R RB hl gl hF hG
  go_enter Try.func6, Try.ntmps6
  go_wp2_with (first | go_skip)
  refine (lnew_H H).mono ?_
  clear H
  rintro e w1 ⟨p, q, rfl, H⟩
  go_wp2_with (go_skip)
  refine (rnewL_H H).mono ?_
  clear H
  rintro e w2 ⟨rp, rfl, HH⟩
  obtain ⟨a0, n0, c0, b0, m0, d0, hl1, hl2, _, H⟩ := HH.open3
  have H0 : DuoH w [] p q rp Lgr.new w2 := ⟨a0, n0, c0, b0, m0, d0, hl1, hl2, H.top2 (.there (.there (.there .here))) (.there (.there (.there .here)))⟩
  clear H HH hl1 hl2
  have H := Heap.start w
  go_wp2_with (go_skip)
  clear H
  go_loopw [7] (fun i wr => PlyR w p q rp an i wr) (fun i _ => an - (intOf i).toNat)
  case atStart => exact ⟨0, Lgr.new, Nat.zero_le _, rfl, Lgr.new_good, H0⟩
  case round =>
    obtain ⟨k, S, hk, rfl, hGS, HD⟩ := hrel.out
    clear H0 hrel
    have HG := Lib.hid hGS
    clear hGS
    by_cases hlt : k < an
    · obtain ⟨ra, rn, rc, rb, rm, rd, hl1, hl2, H⟩ := HD
      have HLR := Lib.hid (And.intro hl1 hl2)
      clear hl1 hl2
      have hkF : k < F.length := by rw [HL.out]; exact hlt
      have hlen : k * 5 + 5 ≤ (actL F).length := by rw [actL_len]; omega
      have hrow := actL_row F k hkF
      have hok := HF.out F[k] (List.getElem_mem hkF)
      generalize F[k] = x at *
      obtain ⟨ba, oa, rfl, _⟩ := (HR.out _ _ H).lt (by omega)
      have HRd := Lib.hid (show Rd wr (some ⟨ba, oa, none⟩) (actL F) from HR.out _ _ H)
      have DO := Lib.hid (fun (l' : List Thing) (w' : World) (h : DuoH w l' p q rp S w') => does_H x hok HG.out h)
      have HG2 := Lib.hid (doesS_good HG.out x)
      clear hkF hok
      go_wp2_with (first
        | go_skip
        | ((with_reducible show wpList _ _ _ (_ :: _) _ _); (with_reducible apply wpl_loadRdR row_act); (· rfl); (· rfl); (· exact HRd.out); (· rfl); (· exact hlen); (· decide); (· exact hrow); (simp only [Act.put, List.setIfInBounds_toArray, List.set_cons_zero, List.set_cons_succ])))
      refine (DO.out [] _ ⟨ra, rn, rc, rb, rm, rd, HLR.out.1, HLR.out.2, H⟩).mono ?_
      clear H DO HRd
      rintro e w3 ⟨rfl, HD⟩
      have H := Heap.start w
      go_wp2_with (go_skip)
      clear H
      refine ⟨⟨k + 1, doesS S x, by omega, by go_num, HG2.out, HD⟩, ?measure1⟩
      case measure1 => simp [intOf]; omega
    · obtain rfl : k = an := by omega
      go_wp2_with (go_skip)
      have H0 := HD
      clear HD
      go_loopw [8] (fun i wr => PlyR w p q rp bn i wr) (fun i _ => bn - (intOf i).toNat)
      case atStart => exact ⟨0, S, Nat.zero_le _, rfl, HG.out, H0⟩
      case round =>
        clear HG H0
        clear S
        obtain ⟨j, S, hj, rfl, hGS, HD⟩ := hrel.out
        clear hrel
        have HG := Lib.hid hGS
        clear hGS
        by_cases hjl : j < bn
        · obtain ⟨ra, rn, rc, rb, rm, rd, hl1, hl2, H⟩ := HD
          have HLR := Lib.hid (And.intro hl1 hl2)
          clear hl1 hl2
          have hkG : j < G.length := by rw [HLB.out]; exact hjl
          have hlen : j * 4 + 4 ≤ (askL G).length := by rw [askL_len]; omega
          have hrow := askL_row G j hkG
          have hok := HGA.out G[j] (List.getElem_mem hkG)
          generalize G[j] = x at *
          obtain ⟨ba, oa, rfl, _⟩ := (HRB.out _ _ H).lt (by omega)
          have HRd := Lib.hid (show Rd wr (some ⟨ba, oa, none⟩) (askL G) from HRB.out _ _ H)
          obtain ⟨f, t, c, n⟩ := x
          obtain ⟨o0, o1, o2, o3⟩ := hok
          simp only at o0 o1 o2 o3 hrow
          have HO := Lib.hid o3
          clear hkG o3
          go_wp2_with (first
            | go_skip
            | ((with_reducible show wpList _ _ _ (_ :: _) _ _); (with_reducible apply wpl_loadRdR row_ask9); (· rfl); (· rfl); (· exact HRd.out); (· rfl); (· exact hlen); (· decide); (· exact hrow); (simp only [Act.put, List.setIfInBounds_toArray, List.set_cons_zero, List.set_cons_succ]))
            | ((with_reducible show wpList _ _ _ (_ :: _) _ _); (with_reducible apply wpl_allocRH row_ask9); (· rfl); (· exact H); (clear H; intro px _ H); (simp only [Act.put, List.setIfInBounds_toArray, List.set_cons_zero, List.set_cons_succ]))
            | ((with_reducible show wpList _ _ _ (_ :: _) _ _); (with_reducible apply wpl_storeRH row_ask9); (· rfl); (· rfl); (· rfl); (· with_reducible exact ask9_cells ..); (· exact H); (· (repeat (first | (with_reducible exact List.mem_cons_self) | with_reducible apply List.mem_cons_of_mem))); (· (simp only [ask9_sz, Nat.reduceAdd, Nat.reduceLeDiff, Nat.le_refl]; done)); (· with_reducible exact ask9_splice ..); (· (repeat (first | (with_reducible exact Repl.here) | with_reducible apply Repl.there))); (clear H; intro _ H); (simp only [Act.put, List.setIfInBounds_toArray, List.set_cons_zero, List.set_cons_succ])))
          clear HRd hrow hlen
          refine wp_region_K0 [7, 15] [0, 1, 2, 3, 4, 5, 6, 8, 9, 10, 11, 12, 13, 14, 7, 15, 16] H (by kernel_rfl) (by kernel_rfl) ?_
          iterate 14 (apply wpK_step; (· rfl); (· rfl); (· rfl); (· exact Nat.le_of_ble_eq_true rfl); (· intro l0 hs0 w0 H0; (first | go_big_quiet_skip | ((with_reducible apply wpQ_loadCH); (· first | exact cell_party | exact cell_cur | exact cell_i64); (· rfl); (· rfl); (· exact hs0 _ (by (repeat (first | (with_reducible exact List.mem_cons_self) | with_reducible apply List.mem_cons_of_mem)))); (· (with_reducible first | exact ask9_g0 .. | exact ask9_g1 .. | exact ask9_g2 .. | exact ask9_g3 ..)); (simp only [Act.put, List.setIfInBounds_toArray, List.set_cons_zero, List.set_cons_succ])) | go_big_quiet_step (fail)); (refine wpQuiet_nil ?_); (simp only [Array.getD_eq_getD_getElem?, List.getElem?_toArray, List.getElem?_cons_succ, List.getElem?_cons_zero, Option.getD_some]; rfl)); (simp only [Act.put, List.setIfInBounds_toArray, List.set_cons_zero, List.set_cons_succ]))
          refine wpK_call (f := 22) (argl := [.pointer (some ⟨p, 0, none⟩), .int .u8 (f : Int), .int .u8 (t : Int), .int .u8 (c : Int)]) rfl rfl rfl Try.call22 rfl ?_
          intro w0 H0
          refine (payMost_H (p := p) (q := q) (S := S) f t c o0 o1 o2 HG.out (by (repeat (first | (with_reducible exact List.mem_cons_self) | with_reducible apply List.mem_cons_of_mem))) (by (repeat (first | (with_reducible exact List.mem_cons_self) | with_reducible apply List.mem_cons_of_mem))) H0).mono ?_
          clear H0
          rintro e w5 ⟨Q1, m1, rfl, hr1, H1⟩
          have HR1 := Lib.hid hr1
          clear hr1
          refine ⟨_, _, rfl, H1, _, Keeps.refl _, Keeps.refl _, ?_⟩
          clear H1
          (simp only [Act.put, List.setIfInBounds_toArray, List.set_cons_zero, List.set_cons_succ])
          refine wpK_call (f := 27) (argl := [.pointer (some ⟨rp, 0, none⟩), .int .u8 (f : Int), .int .u8 (t : Int), .int .u8 (c : Int)]) rfl rfl rfl Try.call27 rfl ?_
          intro w0 H0
          refine (rmost9_H (p := rp) (S := S) f t c o0 o1 o2 HG.out ⟨ra, rn, rc, rb, rm, rd, HLR.out.1, HLR.out.2, by (repeat (first | (with_reducible exact List.mem_cons_self) | with_reducible apply List.mem_cons_of_mem)), by (repeat (first | (with_reducible exact List.mem_cons_self) | with_reducible apply List.mem_cons_of_mem)), by (repeat (first | (with_reducible exact List.mem_cons_self) | with_reducible apply List.mem_cons_of_mem))⟩ H0).mono ?_
          clear H0
          rintro e w6 ⟨Q2, m2, rfl, hr2, H1⟩
          obtain rfl : m2 = m1 := hr2.mosts (capsS_play HG.out c) HR1.out
          clear hr2 HR1
          refine ⟨_, _, rfl, H1, _, Keeps.refl _, Keeps.refl _, ?_⟩
          clear H1
          (simp only [Act.put, List.setIfInBounds_toArray, List.set_cons_zero, List.set_cons_succ])
          iterate 1 (apply wpK_step; (· rfl); (· rfl); (· rfl); (· exact Nat.le_of_ble_eq_true rfl); (· intro l0 hs0 w0 H0; (first | go_big_quiet_skip | fail | go_big_quiet_step (fail)); (refine wpQuiet_nil ?_); (simp only [Array.getD_eq_getD_getElem?, List.getElem?_toArray, List.getElem?_cons_succ, List.getElem?_cons_zero, Option.getD_some]; rfl)); (simp only [Act.put, List.setIfInBounds_toArray, List.set_cons_zero, List.set_cons_succ]))
          (refine wpK_nil ?_; clear H; intro _ H)
          have b0 : (m2 != m2) = false := by simp
          go_wp2_with (first | go_skip | ((with_reducible show wpList _ _ _ (_ :: _) _ _); (with_reducible apply wpl_loadCH); (· first | exact cell_party | exact cell_cur | exact cell_i64); (· rfl); (· rfl); (· exact H); (· (repeat (first | (with_reducible exact List.mem_cons_self) | with_reducible apply List.mem_cons_of_mem))); (· (with_reducible first | exact ask9_g0 .. | exact ask9_g1 .. | exact ask9_g2 .. | exact ask9_g3 ..)); (simp only [Act.put, List.setIfInBounds_toArray, List.set_cons_zero, List.set_cons_succ])))
          clear b0
          refine (pay_H (p := p) (q := q) (S := S) f t c n o0 o1 o2 HO.out HG.out (H.top2 (.there .here) (.there .here))).mono ?_
          clear H
          rintro e w3 ⟨k1, e1, S1, rfl, hp1, H⟩
          have HP1 := Lib.hid hp1
          clear hp1
          go_wp2_with (first | go_skip | ((with_reducible show wpList _ _ _ (_ :: _) _ _); (with_reducible apply wpl_loadCH); (· first | exact cell_party | exact cell_cur | exact cell_i64); (· rfl); (· rfl); (· exact H); (· (repeat (first | (with_reducible exact List.mem_cons_self) | with_reducible apply List.mem_cons_of_mem))); (· (with_reducible first | exact ask9_g0 .. | exact ask9_g1 .. | exact ask9_g2 .. | exact ask9_g3 ..)); (simp only [Act.put, List.setIfInBounds_toArray, List.set_cons_zero, List.set_cons_succ])))
          refine (rpay_H (p := rp) (S := S) f t c n o0 o1 o2 HO.out HG.out (RefH.shut HLR.out.1 HLR.out.2 (H.top3 (.there (.there (.there .here))) (.there (.there (.there .here))) (.there (.there (.there .here)))))).mono ?_
          clear H
          rintro e w4 ⟨k2, e2, S2, rfl, hp2, HH⟩
          obtain ⟨rfl, rfl, rfl⟩ := PayOut.det HP1.out hp2
          clear hp2
          obtain ⟨sa, sn, sc, sb, sm, sd, hl1, hl2, M, H⟩ := HH.open3
          have HLS := Lib.hid (And.intro hl1 hl2)
          have HG1 := Lib.hid (HP1.out.good HG.out)
          have SA := AnsH.on H (sameLed_A (p := p) (q := q) (rp := rp) (S := S1) HG1.out (.there (.there (.there .here))) (.there (.there (.there .here))) M)
          have b1 : (k1 != k1) = false := by simp
          have b2 : (e1 != e1) = false := by simp
          clear hl1 hl2 M HH HP1
          go_wp2_with (first | go_skip | ((with_reducible refine AnsH.call (by assumption) H ?_); clear H; intro _ H))
          refine ⟨⟨j + 1, S1, by omega, by go_num, HG1.out, sa, sn, sc, sb, sm, sd, HLS.out.1, HLS.out.2, ?_⟩, ?measure2⟩
          case measure2 => simp [intOf]; omega
          exact ((H.drop (.there (.there (.there (.there (.there .here)))))).top2 (.there (.there (.there .here))) (.there (.there (.there .here))))
        · obtain rfl : j = bn := by omega
          obtain ⟨ra, rn, rc, rb, rm, rd, hl1, hl2, H⟩ := HD
          clear hl1 hl2
          go_wp2_with (go_skip)
          refine (lives09_H H).mono ?_
          clear H
          rintro e w7 ⟨rfl, H⟩
          go_wp2_with (go_skip)
          go_ret
          exact ⟨rfl, H.low⟩
theorem paymentsPlay_law (v0 v1 : Value) (w : World) (o0 : ActsV w v0) (o1 : AsksV w v1) : Calls Try.prog 6 #[v0, v1] w fun e w' => e = .returned (.bool true) ∧ Below w.heap.size w w' := by
  obtain ⟨a, m, d, F, rfl, o0⟩ := o0
  obtain ⟨b, k, c, G, rfl, o1⟩ := o1
  by_cases hn : m ≤ 120
  · by_cases hb : k ≤ 12
    · exact paymentsPlay_main w a b m d k c F G o0.len hn o0.ok o0.rd o1.len hb o1.ok o1.rd
    · exact paymentsPlay_great2 w a b m d k c hn (by omega) (Nat.le_trans o1.cap o1.max)
  · exact paymentsPlay_great1 w a b m d k c (by omega) (Nat.le_trans o0.cap o0.max)
end Go.Proofs.Ytgobnamhdkbbeaa
