/- PaymentsBack: its walk. -/
import Derived.Test.YtgobnamhdkbbeaaSound9
import Derived.Test.YtgobnamhdkbbeaaPayGPart15
namespace Go.Proofs.Ytgobnamhdkbbeaa
open Go.RowKit
set_option linter.unusedSimpArgs false
set_option linter.unusedVariables false
structure MovR (W : World) (l : List Thing) (i : Value) (wr : World) : Prop where
  out : ∃ a : Nat, i = .int .u8 (a : Int) ∧ 1 ≤ a ∧ a ≤ 17 ∧ Heap W l wr
set_option maxRecDepth 100000
set_option maxHeartbeats 8000000
theorem paymentsBack_great (w : World) (ea : Option Addr) (an ac : Nat) (f t c : Nat) (n : Int) (hn : 120 < an) (hm : an ≤ maxLen) :
    Calls Try.prog 8 #[.slice ea an ac, .agg (ask9 f t c n)] w fun e w' => e = .returned (.bool true) ∧ Below w.heap.size w w' := by
  have H := Heap.start w
  have hcnt : 120 < (an : Int) := by omega
  unfold maxLen at hm
  go_enter Try.func8, Try.ntmps8
  go_wp2_with (first | go_skip | ((with_reducible show wpList _ _ _ (_ :: _) _ _); (with_reducible apply wpl_boxRH); (· rfl); (· rfl); (· exact H); (clear H; intro px _ H); (simp only [Act.put, List.setIfInBounds_toArray, List.set_cons_zero, List.set_cons_succ])))
  refine (lives09_H H).mono ?_
  clear H
  rintro e w7 ⟨rfl, H⟩
  go_wp2_with (go_skip)
  go_ret
  exact ⟨rfl, H.low⟩
theorem paymentsBack_main (w : World) (ea : Option Addr) (an ac : Nat) (F : List LAct) (f t c : Nat) (n : Int) (hl : F.length = an) (hn : an ≤ 120) (hF : ∀ x ∈ F, ActOk x) (R : Rd w ea (actL F)) (o0 : f ≤ 255) (o1 : t ≤ 255) (o2 : c ≤ 255) (o3 : -9223372036854775808 ≤ n ∧ n ≤ 9223372036854775807) :
    Calls Try.prog 8 #[.slice ea an ac, .agg (ask9 f t c n)] w fun e w' => e = .returned (.bool true) ∧ Below w.heap.size w w' := by
  have H := Heap.start w
  have hcnt : ¬ (120 < (an : Int)) := by omega
  have HR := Lib.hid R
  have HL := Lib.hid hl
  have HF := Lib.hid hF
  have HO := Lib.hid o3
  clear R hl hF o3
  go_enter Try.func8, Try.ntmps8
  go_wp2_with (first | go_skip | ((with_reducible show wpList _ _ _ (_ :: _) _ _); (with_reducible apply wpl_boxRH); (· rfl); (· rfl); (· exact H); (clear H; intro px _ H); (simp only [Act.put, List.setIfInBounds_toArray, List.set_cons_zero, List.set_cons_succ])))
  refine (made_H ea an ac F HL.out hn HF.out (fun l' w' _ H' => HR.out.below H'.low) H).mono ?_
  clear H
  rintro e w1 ⟨p, q, rfl, H⟩
  have HG := Lib.hid (madeS_good F)
  generalize hS : madeS F = S at *
  clear hS
  go_wp2_with (go_skip)
  refine (lcopy_H (p := p) (q := q) (P := S.P) (S := S) H (by (repeat (first | (with_reducible exact List.mem_cons_self) | with_reducible apply List.mem_cons_of_mem))) (by (repeat (first | (with_reducible exact List.mem_cons_self) | with_reducible apply List.mem_cons_of_mem)))).mono ?_
  clear H
  rintro e w2 ⟨p', q', rfl, H⟩
  replace H := H.top2 (.there (.there .here)) (.there (.there .here))
  go_wp2_with (first | go_skip | ((with_reducible show wpList _ _ _ (_ :: _) _ _); (with_reducible apply wpl_loadCH); (· first | exact cell_party | exact cell_cur | exact cell_i64); (· rfl); (· rfl); (· exact H); (· (repeat (first | (with_reducible exact List.mem_cons_self) | with_reducible apply List.mem_cons_of_mem))); (· (with_reducible first | exact ask9_g0 .. | exact ask9_g1 .. | exact ask9_g2 .. | exact ask9_g3 ..)); (simp only [Act.put, List.setIfInBounds_toArray, List.set_cons_zero, List.set_cons_succ])))
  refine (pay_H (p := p) (q := q) (S := S) f t c n o0 o1 o2 HO.out HG.out H).mono ?_
  clear H
  rintro e w3 ⟨k1, e1, S1, rfl, hp1, H⟩
  have HP1 := Lib.hid hp1
  clear hp1
  by_cases h0 : e1 = 0
  · subst h0
    have HG1 := Lib.hid (HP1.out.good HG.out)
    go_wp2_with (first | go_skip | ((with_reducible show wpList _ _ _ (_ :: _) _ _); (with_reducible apply wpl_loadCH); (· first | exact cell_party | exact cell_cur | exact cell_i64); (· rfl); (· rfl); (· exact H); (· (repeat (first | (with_reducible exact List.mem_cons_self) | with_reducible apply List.mem_cons_of_mem))); (· (with_reducible first | exact ask9_g0 .. | exact ask9_g1 .. | exact ask9_g2 .. | exact ask9_g3 ..)); (simp only [Act.put, List.setIfInBounds_toArray, List.set_cons_zero, List.set_cons_succ])))
    refine (pay_H (p := p) (q := q) (S := S1) t f c n o1 o0 o2 HO.out HG1.out H).mono ?_
    clear H
    rintro e w4 ⟨k2, e2, S2, rfl, hp2, H⟩
    obtain ⟨rfl, _, g2, hnd, hpos, hcut, hbad⟩ := pay_back HG.out HP1.out hp2
    have HG2 := Lib.hid g2
    have HB := Lib.hid (And.intro hpos (And.intro hcut hbad))
    have SA := AnsH.on H (sound_A (p := p) (q := q) (p2 := p') (q2 := q') (S := S2) (S2 := S) HG2.out HG.out .here .here (.there (.there .here)) (.there (.there .here)) hnd)
    clear hp2 hnd hpos hcut hbad g2
    go_wp2_with (first | go_skip | ((with_reducible refine AnsH.call (by assumption) H ?_); clear H; intro _ H))
    clear SA
    have H0 := H
    clear H
    go_loopw [11] (fun i wr => MovR w [LdC p S2.P (some q), LdM q S2.L, LdC p' S.P (some q'), LdM q' S.L, Cel px (ask9 f t c n) 43] i wr) (fun i _ => 17 - (intOf i).toNat)
    case atStart => exact ⟨1, rfl, by omega, by omega, H0⟩
    case round =>
      obtain ⟨a, rfl, ha1, ha2, H⟩ := hrel.out
      clear H0 hrel
      by_cases hlt : a < 17
      · have g1 : decide ((a : Int) ≤ 16) = true := by simp; omega
        have MA := AnsH.on H (moved_A (p := p) (q := q) (p2 := p') (q2 := q') (S := S2) (S2 := S) a c 0 HG2.out HG.out .here .here (.there (.there .here)) (.there (.there .here)) (by omega) (by have := HB.out.1 c a; omega))
        go_wp2_with (first | go_skip | ((with_reducible refine AnsH.call (by assumption) H ?_); clear H; intro _ H) | ((with_reducible show wpList _ _ _ (_ :: _) _ _); (with_reducible apply wpl_loadCH); (· first | exact cell_party | exact cell_cur | exact cell_i64); (· rfl); (· rfl); (· exact H); (· (repeat (first | (with_reducible exact List.mem_cons_self) | with_reducible apply List.mem_cons_of_mem))); (· (with_reducible first | exact ask9_g0 .. | exact ask9_g1 .. | exact ask9_g2 .. | exact ask9_g3 ..)); (simp only [Act.put, List.setIfInBounds_toArray, List.set_cons_zero, List.set_cons_succ])))
        refine ⟨⟨a + 1, by go_num, by omega, by omega, H⟩, ?measure⟩
        case measure => simp [intOf]; omega
      · obtain rfl : a = 17 := by omega
        have g1 : decide (((17 : Nat) : Int) ≤ 16) = false := by decide
        go_wp2_with (go_skip)
        refine wp_region_K0 [7, 15, 18] [0, 1, 2, 3, 4, 5, 6, 8, 9, 10, 11, 12, 13, 14, 7, 15, 16, 17, 18, 19, 20] H (by kernel_rfl) (by kernel_rfl) ?_
        iterate 14 (apply wpK_step; (· rfl); (· rfl); (· rfl); (· exact Nat.le_of_ble_eq_true rfl); (· intro l0 hs0 w0 H0; (first | go_big_quiet_skip | ((with_reducible apply wpQ_loadCH); (· first | exact cell_party | exact cell_cur | exact cell_i64); (· rfl); (· rfl); (· exact hs0 _ (by (repeat (first | (with_reducible exact List.mem_cons_self) | with_reducible apply List.mem_cons_of_mem)))); (· (with_reducible first | exact ask9_g0 .. | exact ask9_g1 .. | exact ask9_g2 .. | exact ask9_g3 ..)); (simp only [Act.put, List.setIfInBounds_toArray, List.set_cons_zero, List.set_cons_succ])) | go_big_quiet_step (fail)); (refine wpQuiet_nil ?_); (simp only [Array.getD_eq_getD_getElem?, List.getElem?_toArray, List.getElem?_cons_succ, List.getElem?_cons_zero, Option.getD_some]; rfl)); (simp only [Act.put, List.setIfInBounds_toArray, List.set_cons_zero, List.set_cons_succ]))
        refine wpK_call (f := 22) (argl := [.pointer (some ⟨p, 0, none⟩), .int .u8 (f : Int), .int .u8 (t : Int), .int .u8 (c : Int)]) rfl rfl rfl Try.call22 rfl ?_
        intro w0 H0
        refine (payMost_H (p := p) (q := q) (S := S2) f t c o0 o1 o2 HG2.out (by (repeat (first | (with_reducible exact List.mem_cons_self) | with_reducible apply List.mem_cons_of_mem))) (by (repeat (first | (with_reducible exact List.mem_cons_self) | with_reducible apply List.mem_cons_of_mem))) H0).mono ?_
        clear H0
        rintro e w5 ⟨Q1, m1, rfl, hr1, H1⟩
        have HR1 := Lib.hid hr1
        clear hr1
        refine ⟨_, _, rfl, H1, _, Keeps.refl _, Keeps.refl _, ?_⟩
        clear H1
        (simp only [Act.put, List.setIfInBounds_toArray, List.set_cons_zero, List.set_cons_succ])
        refine wpK_call (f := 22) (argl := [.pointer (some ⟨p', 0, none⟩), .int .u8 (f : Int), .int .u8 (t : Int), .int .u8 (c : Int)]) rfl rfl rfl Try.call22 rfl ?_
        intro w0 H0
        refine (payMost_H (p := p') (q := q') (S := S) f t c o0 o1 o2 HG.out (by (repeat (first | (with_reducible exact List.mem_cons_self) | with_reducible apply List.mem_cons_of_mem))) (by (repeat (first | (with_reducible exact List.mem_cons_self) | with_reducible apply List.mem_cons_of_mem))) H0).mono ?_
        clear H0
        rintro e w6 ⟨Q2, m2, rfl, hr2, H1⟩
        obtain rfl : m1 = m2 := by
          have he := pay_ends HB.out.2.2
          exact most_same (capsS_play HG.out c) (capsS_play HG2.out c) he.1 he.2.1 he.2.2.1 HB.out.2.1 hr2 HR1.out
        clear hr2
        refine ⟨_, _, rfl, H1, _, Keeps.refl _, Keeps.refl _, ?_⟩
        clear H1
        (simp only [Act.put, List.setIfInBounds_toArray, List.set_cons_zero, List.set_cons_succ])
        iterate 2 (apply wpK_step; (· rfl); (· rfl); (· rfl); (· exact Nat.le_of_ble_eq_true rfl); (· intro l0 hs0 w0 H0; (first | go_big_quiet_skip | fail | go_big_quiet_step (fail)); (refine wpQuiet_nil ?_); (simp only [Array.getD_eq_getD_getElem?, List.getElem?_toArray, List.getElem?_cons_succ, List.getElem?_cons_zero, Option.getD_some]; rfl)); (simp only [Act.put, List.setIfInBounds_toArray, List.set_cons_zero, List.set_cons_succ]))
        refine wpK_call (f := 23) (argl := []) rfl rfl rfl Try.call23 rfl ?_
        intro w0 H0
        refine (lives09_H H0).mono ?_
        clear H0
        rintro e w7 ⟨rfl, H1⟩
        refine ⟨_, _, rfl, H1, _, Keeps.refl _, Keeps.refl _, ?_⟩
        clear H1
        (simp only [Act.put, List.setIfInBounds_toArray, List.set_cons_zero, List.set_cons_succ])
        iterate 2 (apply wpK_step; (· rfl); (· rfl); (· rfl); (· exact Nat.le_of_ble_eq_true rfl); (· intro l0 hs0 w0 H0; (first | go_big_quiet_skip | fail | go_big_quiet_step (fail)); (refine wpQuiet_nil ?_); (simp only [Array.getD_eq_getD_getElem?, List.getElem?_toArray, List.getElem?_cons_succ, List.getElem?_cons_zero, Option.getD_some]; rfl)); (simp only [Act.put, List.setIfInBounds_toArray, List.set_cons_zero, List.set_cons_succ]))
        (refine wpK_nil ?_; clear H; intro _ H)
        go_wp2_with (go_skip)
        go_ret
        exact ⟨rfl, H.low⟩
  · have b0 : (e1 != 0) = true := by simpa using h0
    clear h0 HP1
    go_wp2_with (go_skip)
    refine (lives09_H H).mono ?_
    clear H
    rintro e w7 ⟨rfl, H⟩
    go_wp2_with (go_skip)
    go_ret
    exact ⟨rfl, H.low⟩
theorem paymentsBack_law (v0 v1 : Value) (w : World) (o0 : ActsV w v0) (o1 : AskArg w v1) : Calls Try.prog 8 #[v0, v1] w fun e w' => e = .returned (.bool true) ∧ Below w.heap.size w w' := by
  obtain ⟨a, m, d, F, rfl, o0⟩ := o0
  obtain ⟨⟨f, t, c, n⟩, rfl, h1, h2, h3, h4⟩ := o1
  by_cases hn : m ≤ 120
  · exact paymentsBack_main w a m d F f t c n o0.len hn o0.ok o0.rd h1 h2 h3 h4
  · exact paymentsBack_great w a m d f t c n (by omega) (Nat.le_trans o0.cap o0.max)
end Go.Proofs.Ytgobnamhdkbbeaa
