/- Part 13 of what several laws stand on: LawGraphsLedger, Pay9p, BsAny, Pay9, Pay9b. -/
import Derived.Test.YtgobnamhdkbbeaaPayGPart12
/- The walk of GraphsLedger. -/
namespace Go.Proofs.Ytgobnamhdkbbeaa
open Go.RowKit
set_option linter.unusedSimpArgs false
set_option linter.unusedVariables false
attribute [local go_sem high] run_min2
theorem flwL_row1 {F : List Flw} {k : Nat} (h : k < F.length) : k * 3 + 3 ≤ (flwL F).length ∧ (((flwL F).drop (k * 3)).take 3).toArray = flow F[k].f F[k].t F[k].n := by
  refine ⟨by rw [flwL_len]; omega, ?_⟩
  rw [flwL_at F k h]
  rfl
section
variable {S : Lgr}
/-- A push, on a ledger and on its rooms. -/
theorem push_caps (G : S.Good) {a b c : Nat} {n : Int} (h : pushE S a b c n = 0) (x y : Nat) : pushC (capsS S c) a b n x y = capsS (pushS S a b c n) c x y := by
  obtain ⟨h1, h2, h3, h4, h5⟩ := G.push0 h
  have hne : a ≠ b := fun e => h3 (by rw [e])
  have hr := push_room G h
  rw [pair_get hne]
  unfold pairD capsS
  by_cases e1 : x = a ∧ y = b
  · obtain ⟨rfl, rfl⟩ := e1
    rw [if_pos ⟨rfl, rfl⟩, hr.1]
    rfl
  · rw [if_neg e1]
    by_cases e2 : x = b ∧ y = a
    · obtain ⟨rfl, rfl⟩ := e2
      rw [if_pos ⟨rfl, rfl⟩, hr.2]
    · rw [if_neg e2, Int.add_zero, push_room_other]
      rintro ⟨-, h | h⟩
      · exact e1 ⟨by omega, by omega⟩
      · exact e2 ⟨by omega, by omega⟩
theorem push_caps_other {a b c d : Nat} (n : Int) (h : d ≠ c) (x y : Nat) : capsS (pushS S a b c n) d x y = capsS S d x y :=
  push_room_other (fun e => h (by have := e.1; omega))
end
theorem Gr_congr {p : Nat} {c d : Caps} (h : ∀ a b, a < 17 → b < 17 → c a b = d a b) : Gr p c = Gr p d := by unfold Gr; rw [gr_congr h]
structure GLedR (W : World) (S0 : Lgr) (cu cv pg po p q n : Nat) (i : Value) (wr : World) : Prop where
  out : ∃ (k : Nat) (S : Lgr), k ≤ n ∧ i = .int .i64 (k : Int) ∧ S.Good ∧ (∀ a b, capsS S cv a b = capsS S0 cv a b) ∧ Heap W [Gr pg (capsS S cu), Gr po (capsS S0 cv), LdC p S.P (some q), LdM q S.L] wr
set_option maxRecDepth 100000
set_option maxHeartbeats 8000000
theorem graphsLedger_great (w : World) (ea fa : Option Addr) (an ac fn fc cu : Nat) (hn : 120 < an ∨ 40 < fn) (hm : an ≤ maxLen) (hm2 : fn ≤ maxLen) :
    Calls Try.prog 3 #[.slice ea an ac, .int .u8 (cu : Int), .slice fa fn fc] w fun e w' => e = .returned (.bool true) ∧ Below w.heap.size w w' := by
  have H := Heap.start w
  unfold maxLen at hm hm2
  rcases (show 120 < (an : Int) ∨ ¬ (120 < (an : Int)) ∧ 40 < (fn : Int) from by omega) with h1 | ⟨h1, h2⟩
  all_goals
    clear hn
    go_enter Try.func3, Try.ntmps3
    go_wp2_with (first | go_skip)
    refine (lives05_H H).mono ?_
    clear H
    rintro e w7 ⟨rfl, H⟩
    go_wp2_with (go_skip)
    go_ret
    exact ⟨rfl, H.low⟩
theorem graphsLedger_main (w : World) (ea fa : Option Addr) (an ac fn fc cu cv : Nat) (F : List LAct) (X : List Flw) (hl : F.length = an) (hn : an ≤ 120) (hF : ∀ x ∈ F, ActOk x) (R : Rd w ea (actL F)) (hc : cu ≤ 255) (hxl : X.length = fn) (hfn : fn ≤ 40) (hX : ∀ x ∈ X, FlwOk x) (RX : Rd w fa (flwL X)) (hcv : cv ≤ 255) (hne : cv ≠ cu) (hwr : IntKind.u8.wrap ((cu : Int) + 1) = (cv : Int)) :
    Calls Try.prog 3 #[.slice ea an ac, .int .u8 (cu : Int), .slice fa fn fc] w fun e w' => e = .returned (.bool true) ∧ Below w.heap.size w w' := by
  have H := Heap.start w
  have hcnt : ¬ (120 < (an : Int)) := by omega
  have hcnt2 : ¬ (40 < (fn : Int)) := by omega
  have HR := Lib.hid R
  have HL := Lib.hid hl
  have HF := Lib.hid hF
  have HX := Lib.hid RX
  have HXL := Lib.hid hxl
  have HXF := Lib.hid hX
  have HN := Lib.hid hne
  clear R hl hF RX hxl hX hne
  go_enter Try.func3, Try.ntmps3
  go_wp2_with (go_skip)
  refine (made_H ea an ac F HL.out hn HF.out (fun l' w' _ H' => HR.out.below H'.low) H).mono ?_
  clear H
  rintro e w1 ⟨p, q, rfl, H⟩
  have HG := Lib.hid (madeS_good F)
  generalize hS : madeS F = S0 at *
  clear hS
  go_wp2_with (go_skip)
  refine (of_H (p := p) (q := q) (S := S0) cu hc HG.out H (by (repeat (first | (with_reducible exact List.mem_cons_self) | with_reducible apply List.mem_cons_of_mem))) (by (repeat (first | (with_reducible exact List.mem_cons_self) | with_reducible apply List.mem_cons_of_mem)))).mono ?_
  clear H
  rintro e w2 ⟨pg, rfl, H⟩
  go_wp2_with (go_skip)
  refine (of_H (p := p) (q := q) (S := S0) cv hcv HG.out H (by (repeat (first | (with_reducible exact List.mem_cons_self) | with_reducible apply List.mem_cons_of_mem))) (by (repeat (first | (with_reducible exact List.mem_cons_self) | with_reducible apply List.mem_cons_of_mem)))).mono ?_
  clear H
  rintro e w3 ⟨po, rfl, H⟩
  replace H := H.perm (.swap _ _ _)
  go_wp2_with (go_skip)
  have H0 := H
  clear H
  go_loopw [10] (fun i wr => GLedR w S0 cu cv pg po p q fn i wr) (fun i _ => fn - (intOf i).toNat)
  case atStart => exact ⟨0, S0, Nat.zero_le _, rfl, HG.out, fun _ _ => rfl, H0⟩
  case round =>
    obtain ⟨k, S, hk, rfl, HS, HO, H⟩ := hrel.out
    clear H0 hrel
    have HS := Lib.hid HS
    have HO := Lib.hid HO
    by_cases hlt : k < fn
    · have hkX : k < X.length := by rw [HXL.out]; exact hlt
      have hlen := (flwL_row1 hkX).1
      have hrow := (flwL_row1 hkX).2
      have hok := HXF.out X[k] (List.getElem_mem hkX)
      generalize X[k] = x at *
      obtain ⟨a, b, n⟩ := x
      obtain ⟨ha, hb, hn0, hn1⟩ := hok
      simp only at ha hb hn0 hn1 hrow
      have HRd0 := HX.out.below H.low
      obtain ⟨ba, oa, rfl, _⟩ := HRd0.lt (by omega)
      have HRd := Lib.hid HRd0
      clear HRd0 hkX
      have hrm := HS.out.room a b cu
      have t5 : (roomOf S a b cu != roomOf S a b cu) = false := by simp
      go_wp2_with (first
        | go_skip
        | ((with_reducible show wpList _ _ _ (_ :: _) _ _); (with_reducible apply wpl_loadRdR row_flow); (· rfl); (· rfl); (· exact HRd.out); (· rfl); (· exact hlen); (· decide); (· exact hrow); (simp only [Act.put, List.setIfInBounds_toArray, List.set_cons_zero, List.set_cons_succ]))
        | ((with_reducible show wpList _ _ _ (_ :: _) _ _); (with_reducible apply wpl_allocRH row_flow); (· rfl); (· exact H); (clear H; intro px _ H); (simp only [Act.put, List.setIfInBounds_toArray, List.set_cons_zero, List.set_cons_succ]))
        | ((with_reducible show wpList _ _ _ (_ :: _) _ _); (with_reducible apply wpl_storeRH row_flow); (· rfl); (· rfl); (· rfl); (· with_reducible exact flow_cells ..); (· exact H); (· (repeat (first | (with_reducible exact List.mem_cons_self) | with_reducible apply List.mem_cons_of_mem))); (· (simp only [flow_sz, Nat.reduceAdd, Nat.reduceLeDiff, Nat.le_refl]; done)); (· with_reducible exact flow_splice ..); (· (repeat (first | (with_reducible exact Repl.here) | with_reducible apply Repl.there))); (clear H; intro _ H); (simp only [Act.put, List.setIfInBounds_toArray, List.set_cons_zero, List.set_cons_succ])))
      clear hrow hlen HRd
      have R1 := cap_H (W := w) (l := [Cel px (flow a b n) 32, Gr pg (capsS S cu), Gr po (capsS S0 cv), LdC p S.P (some q), LdM q S.L]) (p := pg) (c := capsS S cu) a b ha hb (by (repeat (first | (with_reducible exact List.mem_cons_self) | with_reducible apply List.mem_cons_of_mem)))
      have R2 := lroom_H (W := w) (l := [Cel px (flow a b n) 32, Gr pg (capsS S cu), Gr po (capsS S0 cv), LdC p S.P (some q), LdM q S.L]) (p := p) (q := q) (S := S) a b cu ha hb hc HS.out (by (repeat (first | (with_reducible exact List.mem_cons_self) | with_reducible apply List.mem_cons_of_mem))) (by (repeat (first | (with_reducible exact List.mem_cons_self) | with_reducible apply List.mem_cons_of_mem)))
      rw [capsS_cap HS.out, show capsS S cu a b = roomOf S a b cu from rfl] at R1
      generalize hv : roomOf S a b cu = v at *
      refine wp_region_H H (by kernel_rfl) (by kernel_rfl) ?_
      repeat (first | go_big_quiet_skip | ((with_reducible apply wpQ_loadCH); (· first | exact cell_party | exact cell_i64); (· rfl); (· rfl); (· (repeat (first | (with_reducible exact List.mem_cons_self) | with_reducible apply List.mem_cons_of_mem))); (· (with_reducible first | exact flow_g0 .. | exact flow_g1 .. | exact flow_g2 ..)); (simp only [Act.put, List.setIfInBounds_toArray, List.set_cons_zero, List.set_cons_succ])) | go_big_quiet_step ((with_reducible first | exact AnsH.quiet (by assumption) | exact Ans.quietH (by assumption))))
      refine wpQuiet_nil ?_
      clear H
      intro _ H
      have HV := Lib.hid hv
      clear hv t5
      rcases Nat.mod_two_eq_zero_or_one k with he | he
      · have h8 : Int.tmod (k : Int) 2 = 0 := by rw [Int.tmod_eq_emod_of_nonneg (by omega)]; omega
        clear he
        obtain ⟨m, hmin⟩ : ∃ m, min n v = m := ⟨_, rfl⟩
        have hm0 : -9223372036854775808 ≤ m ∧ m ≤ 9223372036854775807 := by omega
        go_wp2_with (go_skip)
        refine wp_region_H_tail 10 H (by kernel_rfl) (by kernel_rfl) ?_
        simp only [List.take_succ_cons, List.take_zero, List.drop_succ_cons, List.drop_zero]
        repeat (first | go_big_quiet_skip | ((with_reducible apply wpQ_loadCH); (· first | exact cell_party | exact cell_i64); (· rfl); (· rfl); (· (repeat (first | (with_reducible exact List.mem_cons_self) | with_reducible apply List.mem_cons_of_mem))); (· (with_reducible first | exact flow_g0 .. | exact flow_g1 .. | exact flow_g2 ..)); (simp only [Act.put, List.setIfInBounds_toArray, List.set_cons_zero, List.set_cons_succ])) | go_big_quiet_step ((with_reducible first | exact AnsH.quiet (by assumption) | exact Ans.quietH (by assumption))))
        refine wpQuiet_nil ?_
        clear H
        intro _ H
        try rw [hmin]
        clear hmin R1 R2 hn0 hn1 h8
        have R3 := cap_H (W := w) (l := [Cel px (flow a b m) 32, Gr pg (capsS S cu), Gr po (capsS S0 cv), LdC p S.P (some q), LdM q S.L]) (p := pg) (c := capsS S cu) a b ha hb (by (repeat (first | (with_reducible exact List.mem_cons_self) | with_reducible apply List.mem_cons_of_mem)))
        rw [capsS_cap HS.out, (show capsS S cu a b = roomOf S a b cu from rfl), HV.out] at R3
        go_wp2_with (first | go_skip | (first | ((with_reducible show wpList _ _ _ (_ :: _) _ _); (with_reducible apply wpl_storeIH); (· exact cell_i64); (· rfl); (· rfl); (· rfl); (· exact H); (· (repeat (first | (with_reducible exact List.mem_cons_self) | with_reducible apply List.mem_cons_of_mem))); (· (simp only [flow_sz, Nat.reduceLT]; done)); (· (with_reducible first | exact flow_s0 .. | exact flow_s1 .. | exact flow_s2 ..)); (· (repeat (first | (with_reducible exact Repl.here) | with_reducible apply Repl.there))); (clear H; intro _ H); (simp only [Act.put, List.setIfInBounds_toArray, List.set_cons_zero, List.set_cons_succ])) | ((with_reducible show wpList _ _ _ (_ :: _) _ _); (with_reducible apply wpl_storeBH); (· exact cell_i64); (· rfl); (· rfl); (· rfl); (· exact H); (· (repeat (first | (with_reducible exact List.mem_cons_self) | with_reducible apply List.mem_cons_of_mem))); (· (simp only [flow_sz, Nat.reduceLT]; done)); (· (with_reducible first | exact flow_s0 .. | exact flow_s1 .. | exact flow_s2 ..)); (· (repeat (first | (with_reducible exact Repl.here) | with_reducible apply Repl.there))); (clear H; intro _ H); (simp only [Act.put, List.setIfInBounds_toArray, List.set_cons_zero, List.set_cons_succ])) | ((with_reducible show wpList _ _ _ (_ :: _) _ _); (with_reducible apply wpl_storeSH); (· exact cell_i64); (· rfl); (· rfl); (· rfl); (· exact H); (· (repeat (first | (with_reducible exact List.mem_cons_self) | with_reducible apply List.mem_cons_of_mem))); (· (simp only [flow_sz, Nat.reduceLT]; done)); (· (with_reducible first | exact flow_s0 .. | exact flow_s1 .. | exact flow_s2 ..)); (· (repeat (first | (with_reducible exact Repl.here) | with_reducible apply Repl.there))); (clear H; intro _ H); (simp only [Act.put, List.setIfInBounds_toArray, List.set_cons_zero, List.set_cons_succ])) | ((with_reducible show wpList _ _ _ (_ :: _) _ _); (with_reducible apply wpl_storePH); (· exact cell_i64); (· rfl); (· rfl); (· rfl); (· exact H); (· (repeat (first | (with_reducible exact List.mem_cons_self) | with_reducible apply List.mem_cons_of_mem))); (· (simp only [flow_sz, Nat.reduceLT]; done)); (· (with_reducible first | exact flow_s0 .. | exact flow_s1 .. | exact flow_s2 ..)); (· (repeat (first | (with_reducible exact Repl.here) | with_reducible apply Repl.there))); (clear H; intro _ H); (simp only [Act.put, List.setIfInBounds_toArray, List.set_cons_zero, List.set_cons_succ]))) | ((with_reducible refine AnsH.call (by assumption) H ?_); clear H; intro _ H) | ((with_reducible show wpList _ _ _ (_ :: _) _ _); (with_reducible apply wpl_loadCH); (· first | exact cell_party | exact cell_i64); (· rfl); (· rfl); (· exact H); (· (repeat (first | (with_reducible exact List.mem_cons_self) | with_reducible apply List.mem_cons_of_mem))); (· (with_reducible first | exact flow_g0 .. | exact flow_g1 .. | exact flow_g2 ..)); (simp only [Act.put, List.setIfInBounds_toArray, List.set_cons_zero, List.set_cons_succ])))
        clear R3
        by_cases h1 : m < 1
        · have e1 : pushE S a b cu m = 1 := by unfold pushE; rw [if_pos h1]
          have e2 : pushS S a b cu m = S := by unfold pushS; rw [if_neg (by rw [e1]; decide)]
          have g1 : decide (m ≥ 1) = false := decide_eq_false (by omega)
          have g2 : decide (1 ≤ m) = false := decide_eq_false (by omega)
          refine (push_arg a b m (p := pg) (c := capsS S cu) (by (repeat (first | (with_reducible exact List.mem_cons_self) | with_reducible apply List.mem_cons_of_mem))) h1 _ H).mono ?_
          clear H h1
          rintro e w4 ⟨rfl, H⟩
          go_wp2_with (first | go_skip | ((with_reducible show wpList _ _ _ (_ :: _) _ _); (with_reducible apply wpl_loadCH); (· first | exact cell_party | exact cell_i64); (· rfl); (· rfl); (· exact H); (· (repeat (first | (with_reducible exact List.mem_cons_self) | with_reducible apply List.mem_cons_of_mem))); (· (with_reducible first | exact flow_g0 .. | exact flow_g1 .. | exact flow_g2 ..)); (simp only [Act.put, List.setIfInBounds_toArray, List.set_cons_zero, List.set_cons_succ])))
          refine (lpush_H (p := p) (q := q) (S := S) a b cu m ha hb hc hm0 HS.out (H.top2 (.there (.there (.there .here))) (.there (.there (.there .here))))).mono ?_
          clear H
          rintro e w5 ⟨rfl, H⟩
          rw [e1]
          rw [e2] at H
          clear e1 e2
          go_wp2_with (first | go_skip | ((with_reducible show wpList _ _ _ (_ :: _) _ _); (with_reducible apply wpl_loadCH); (· first | exact cell_party | exact cell_i64); (· rfl); (· rfl); (· exact H); (· (repeat (first | (with_reducible exact List.mem_cons_self) | with_reducible apply List.mem_cons_of_mem))); (· (with_reducible first | exact flow_g0 .. | exact flow_g1 .. | exact flow_g2 ..)); (simp only [Act.put, List.setIfInBounds_toArray, List.set_cons_zero, List.set_cons_succ])))
          refine (of_H (p := p) (q := q) (S := S) cu hc HS.out H (by (repeat (first | (with_reducible exact List.mem_cons_self) | with_reducible apply List.mem_cons_of_mem))) (by (repeat (first | (with_reducible exact List.mem_cons_self) | with_reducible apply List.mem_cons_of_mem)))).mono ?_
          clear H
          rintro e w6 ⟨pn, rfl, H⟩
          go_wp2_with (go_skip)
          refine (same_ans (W := w) (c := capsS S cu) (d := capsS S cu) (.pointer (some ⟨pg, 0, none⟩)) (.pointer (some ⟨pn, 0, none⟩)) (all_H (p := pg) (m := true) (by (repeat (first | (with_reducible exact List.mem_cons_self) | with_reducible apply List.mem_cons_of_mem))) (fun h => by cases h)) (all_H (p := pn) (m := true) (by (repeat (first | (with_reducible exact List.mem_cons_self) | with_reducible apply List.mem_cons_of_mem))) (fun h => by cases h)) _ H).mono ?_
          clear H
          rintro e w7 ⟨rfl, H⟩
          rw [show matSame (capsS S cu) (capsS S cu) = true from matSame_iff.2 (fun _ _ _ _ => rfl)]
          go_wp2_with (go_skip)
          refine ⟨⟨k + 1, S, by omega, by go_num, HS.out, HO.out, ?_⟩, ?measure1⟩
          · exact (H.tail.drop (.there (.there .here))).top2 (.there (.there .here)) (.there (.there .here))
          case measure1 => simp [intOf]; omega
        · by_cases h2 : v < m
          · have e1 : pushE S a b cu m = 11 := by unfold pushE; rw [if_neg h1, if_pos (by rw [HV.out]; exact h2)]
            have e2 : pushS S a b cu m = S := by unfold pushS; rw [if_neg (by rw [e1]; decide)]
            have g1 : decide (m ≥ 1) = true := decide_eq_true (by omega)
            have g2 : decide (1 ≤ m) = true := decide_eq_true (by omega)
            have g3 : decide (m ≤ v) = false := decide_eq_false (by omega)
            refine (push_route a b m ha hb (p := pg) (c := capsS S cu) (by (repeat (first | (with_reducible exact List.mem_cons_self) | with_reducible apply List.mem_cons_of_mem))) (by omega) (by rw [capsS_cap HS.out, (show capsS S cu a b = roomOf S a b cu from rfl), HV.out]; exact h2) _ H).mono ?_
            clear H h1 h2
            rintro e w4 ⟨rfl, H⟩
            go_wp2_with (first | go_skip | ((with_reducible show wpList _ _ _ (_ :: _) _ _); (with_reducible apply wpl_loadCH); (· first | exact cell_party | exact cell_i64); (· rfl); (· rfl); (· exact H); (· (repeat (first | (with_reducible exact List.mem_cons_self) | with_reducible apply List.mem_cons_of_mem))); (· (with_reducible first | exact flow_g0 .. | exact flow_g1 .. | exact flow_g2 ..)); (simp only [Act.put, List.setIfInBounds_toArray, List.set_cons_zero, List.set_cons_succ])))
            refine (lpush_H (p := p) (q := q) (S := S) a b cu m ha hb hc hm0 HS.out (H.top2 (.there (.there (.there .here))) (.there (.there (.there .here))))).mono ?_
            clear H
            rintro e w5 ⟨rfl, H⟩
            rw [e1]
            rw [e2] at H
            clear e1 e2
            go_wp2_with (first | go_skip | ((with_reducible show wpList _ _ _ (_ :: _) _ _); (with_reducible apply wpl_loadCH); (· first | exact cell_party | exact cell_i64); (· rfl); (· rfl); (· exact H); (· (repeat (first | (with_reducible exact List.mem_cons_self) | with_reducible apply List.mem_cons_of_mem))); (· (with_reducible first | exact flow_g0 .. | exact flow_g1 .. | exact flow_g2 ..)); (simp only [Act.put, List.setIfInBounds_toArray, List.set_cons_zero, List.set_cons_succ])))
            refine (of_H (p := p) (q := q) (S := S) cu hc HS.out H (by (repeat (first | (with_reducible exact List.mem_cons_self) | with_reducible apply List.mem_cons_of_mem))) (by (repeat (first | (with_reducible exact List.mem_cons_self) | with_reducible apply List.mem_cons_of_mem)))).mono ?_
            clear H
            rintro e w6 ⟨pn, rfl, H⟩
            go_wp2_with (go_skip)
            refine (same_ans (W := w) (c := capsS S cu) (d := capsS S cu) (.pointer (some ⟨pg, 0, none⟩)) (.pointer (some ⟨pn, 0, none⟩)) (all_H (p := pg) (m := true) (by (repeat (first | (with_reducible exact List.mem_cons_self) | with_reducible apply List.mem_cons_of_mem))) (fun h => by cases h)) (all_H (p := pn) (m := true) (by (repeat (first | (with_reducible exact List.mem_cons_self) | with_reducible apply List.mem_cons_of_mem))) (fun h => by cases h)) _ H).mono ?_
            clear H
            rintro e w7 ⟨rfl, H⟩
            rw [show matSame (capsS S cu) (capsS S cu) = true from matSame_iff.2 (fun _ _ _ _ => rfl)]
            go_wp2_with (go_skip)
            refine ⟨⟨k + 1, S, by omega, by go_num, HS.out, HO.out, ?_⟩, ?measure2⟩
            · exact (H.tail.drop (.there (.there .here))).top2 (.there (.there .here)) (.there (.there .here))
            case measure2 => simp [intOf]; omega
          · have e1 : pushE S a b cu m = 0 := by unfold pushE; rw [if_neg h1, if_neg (by rw [HV.out]; exact h2)]
            have g1 : decide (m ≥ 1) = true := decide_eq_true (by omega)
            have g2 : decide (1 ≤ m) = true := decide_eq_true (by omega)
            have g3 : decide (m ≤ v) = true := decide_eq_true (by omega)
            have hcv2 : capsS S cu a b = v := by rw [(show capsS S cu a b = roomOf S a b cu from rfl), HV.out]
            have hab := capsS_in HS.out (show capsS S cu a b ≠ 0 by omega)
            have hrm2 := HS.out.room b a cu
            have hu : upd2 (capsS S cu) a b (capsS S cu a b - m) b a = capsS S cu b a := by unfold upd2; rw [if_neg (fun e => hab.1 e.1.symm)]
            have hm2 : 0 ≤ capsS S cu b a ∧ capsS S cu b a ≤ 2199023255552 := hrm2
            refine (push_ok (p := pg) (c := capsS S cu) a b m hab.2.1 hab.2.2.1 hab.2.2.2.1 hab.2.2.2.2 (H.pull (.there .here)) (by omega) (by omega) (by omega) (by omega) (by omega)).mono ?_
            clear H h1 h2 hab hrm2 hu hm2 hcv2
            rintro e w4 ⟨rfl, H⟩
            rw [Gr_congr (fun x y _ _ => push_caps HS.out e1 x y)] at H
            have HS2 := Lib.hid (HS.out.push a b cu m)
            have HO2 := Lib.hid (fun x y => (push_caps_other (S := S) (a := a) (b := b) m HN.out x y).trans (HO.out x y))
            have HP := Lib.hid (push_P S a b cu m)
            go_wp2_with (first | go_skip | ((with_reducible show wpList _ _ _ (_ :: _) _ _); (with_reducible apply wpl_loadCH); (· first | exact cell_party | exact cell_i64); (· rfl); (· rfl); (· exact H); (· (repeat (first | (with_reducible exact List.mem_cons_self) | with_reducible apply List.mem_cons_of_mem))); (· (with_reducible first | exact flow_g0 .. | exact flow_g1 .. | exact flow_g2 ..)); (simp only [Act.put, List.setIfInBounds_toArray, List.set_cons_zero, List.set_cons_succ])))
            refine (lpush_H (p := p) (q := q) (S := S) a b cu m ha hb hc hm0 HS.out (H.top2 (.there (.there (.there .here))) (.there (.there (.there .here))))).mono ?_
            clear H
            rintro e w5 ⟨rfl, H⟩
            rw [e1]
            rw [← HP.out] at H
            clear e1
            generalize pushS S a b cu m = S2 at *
            go_wp2_with (first | go_skip | ((with_reducible show wpList _ _ _ (_ :: _) _ _); (with_reducible apply wpl_loadCH); (· first | exact cell_party | exact cell_i64); (· rfl); (· rfl); (· exact H); (· (repeat (first | (with_reducible exact List.mem_cons_self) | with_reducible apply List.mem_cons_of_mem))); (· (with_reducible first | exact flow_g0 .. | exact flow_g1 .. | exact flow_g2 ..)); (simp only [Act.put, List.setIfInBounds_toArray, List.set_cons_zero, List.set_cons_succ])))
            refine (of_H (p := p) (q := q) (S := S2) cu hc HS2.out H (by (repeat (first | (with_reducible exact List.mem_cons_self) | with_reducible apply List.mem_cons_of_mem))) (by (repeat (first | (with_reducible exact List.mem_cons_self) | with_reducible apply List.mem_cons_of_mem)))).mono ?_
            clear H
            rintro e w6 ⟨pn, rfl, H⟩
            go_wp2_with (go_skip)
            refine (same_ans (W := w) (c := capsS S2 cu) (d := capsS S2 cu) (.pointer (some ⟨pg, 0, none⟩)) (.pointer (some ⟨pn, 0, none⟩)) (all_H (p := pg) (m := true) (by (repeat (first | (with_reducible exact List.mem_cons_self) | with_reducible apply List.mem_cons_of_mem))) (fun h => by cases h)) (all_H (p := pn) (m := true) (by (repeat (first | (with_reducible exact List.mem_cons_self) | with_reducible apply List.mem_cons_of_mem))) (fun h => by cases h)) _ H).mono ?_
            clear H
            rintro e w7 ⟨rfl, H⟩
            rw [show matSame (capsS S2 cu) (capsS S2 cu) = true from matSame_iff.2 (fun _ _ _ _ => rfl)]
            go_wp2_with (go_skip)
            refine ⟨⟨k + 1, S2, by omega, by go_num, HS2.out, HO2.out, ?_⟩, ?measure3⟩
            · exact ((H.tail.drop (.there (.there (.there .here))))).top2 (.there (.there .here)) (.there (.there .here))
            case measure3 => simp [intOf]; omega
      · have h8 : Int.tmod (k : Int) 2 = 1 := by rw [Int.tmod_eq_emod_of_nonneg (by omega)]; omega
        clear he
        have hm0 : -9223372036854775808 ≤ n ∧ n ≤ 9223372036854775807 := ⟨hn0, hn1⟩
        clear R1 R2 hn0 hn1
        generalize n = m at *
        have R3 := cap_H (W := w) (l := [Cel px (flow a b m) 32, Gr pg (capsS S cu), Gr po (capsS S0 cv), LdC p S.P (some q), LdM q S.L]) (p := pg) (c := capsS S cu) a b ha hb (by (repeat (first | (with_reducible exact List.mem_cons_self) | with_reducible apply List.mem_cons_of_mem)))
        rw [capsS_cap HS.out, (show capsS S cu a b = roomOf S a b cu from rfl), HV.out] at R3
        go_wp2_with (first | go_skip | ((with_reducible refine AnsH.call (by assumption) H ?_); clear H; intro _ H) | ((with_reducible show wpList _ _ _ (_ :: _) _ _); (with_reducible apply wpl_loadCH); (· first | exact cell_party | exact cell_i64); (· rfl); (· rfl); (· exact H); (· (repeat (first | (with_reducible exact List.mem_cons_self) | with_reducible apply List.mem_cons_of_mem))); (· (with_reducible first | exact flow_g0 .. | exact flow_g1 .. | exact flow_g2 ..)); (simp only [Act.put, List.setIfInBounds_toArray, List.set_cons_zero, List.set_cons_succ])))
        clear h8
        clear R3
        by_cases h1 : m < 1
        · have e1 : pushE S a b cu m = 1 := by unfold pushE; rw [if_pos h1]
          have e2 : pushS S a b cu m = S := by unfold pushS; rw [if_neg (by rw [e1]; decide)]
          have g1 : decide (m ≥ 1) = false := decide_eq_false (by omega)
          have g2 : decide (1 ≤ m) = false := decide_eq_false (by omega)
          refine (push_arg a b m (p := pg) (c := capsS S cu) (by (repeat (first | (with_reducible exact List.mem_cons_self) | with_reducible apply List.mem_cons_of_mem))) h1 _ H).mono ?_
          clear H h1
          rintro e w4 ⟨rfl, H⟩
          go_wp2_with (first | go_skip | ((with_reducible show wpList _ _ _ (_ :: _) _ _); (with_reducible apply wpl_loadCH); (· first | exact cell_party | exact cell_i64); (· rfl); (· rfl); (· exact H); (· (repeat (first | (with_reducible exact List.mem_cons_self) | with_reducible apply List.mem_cons_of_mem))); (· (with_reducible first | exact flow_g0 .. | exact flow_g1 .. | exact flow_g2 ..)); (simp only [Act.put, List.setIfInBounds_toArray, List.set_cons_zero, List.set_cons_succ])))
          refine (lpush_H (p := p) (q := q) (S := S) a b cu m ha hb hc hm0 HS.out (H.top2 (.there (.there (.there .here))) (.there (.there (.there .here))))).mono ?_
          clear H
          rintro e w5 ⟨rfl, H⟩
          rw [e1]
          rw [e2] at H
          clear e1 e2
          go_wp2_with (first | go_skip | ((with_reducible show wpList _ _ _ (_ :: _) _ _); (with_reducible apply wpl_loadCH); (· first | exact cell_party | exact cell_i64); (· rfl); (· rfl); (· exact H); (· (repeat (first | (with_reducible exact List.mem_cons_self) | with_reducible apply List.mem_cons_of_mem))); (· (with_reducible first | exact flow_g0 .. | exact flow_g1 .. | exact flow_g2 ..)); (simp only [Act.put, List.setIfInBounds_toArray, List.set_cons_zero, List.set_cons_succ])))
          refine (of_H (p := p) (q := q) (S := S) cu hc HS.out H (by (repeat (first | (with_reducible exact List.mem_cons_self) | with_reducible apply List.mem_cons_of_mem))) (by (repeat (first | (with_reducible exact List.mem_cons_self) | with_reducible apply List.mem_cons_of_mem)))).mono ?_
          clear H
          rintro e w6 ⟨pn, rfl, H⟩
          go_wp2_with (go_skip)
          refine (same_ans (W := w) (c := capsS S cu) (d := capsS S cu) (.pointer (some ⟨pg, 0, none⟩)) (.pointer (some ⟨pn, 0, none⟩)) (all_H (p := pg) (m := true) (by (repeat (first | (with_reducible exact List.mem_cons_self) | with_reducible apply List.mem_cons_of_mem))) (fun h => by cases h)) (all_H (p := pn) (m := true) (by (repeat (first | (with_reducible exact List.mem_cons_self) | with_reducible apply List.mem_cons_of_mem))) (fun h => by cases h)) _ H).mono ?_
          clear H
          rintro e w7 ⟨rfl, H⟩
          rw [show matSame (capsS S cu) (capsS S cu) = true from matSame_iff.2 (fun _ _ _ _ => rfl)]
          go_wp2_with (go_skip)
          refine ⟨⟨k + 1, S, by omega, by go_num, HS.out, HO.out, ?_⟩, ?measure4⟩
          · exact (H.tail.drop (.there (.there .here))).top2 (.there (.there .here)) (.there (.there .here))
          case measure4 => simp [intOf]; omega
        · by_cases h2 : v < m
          · have e1 : pushE S a b cu m = 11 := by unfold pushE; rw [if_neg h1, if_pos (by rw [HV.out]; exact h2)]
            have e2 : pushS S a b cu m = S := by unfold pushS; rw [if_neg (by rw [e1]; decide)]
            have g1 : decide (m ≥ 1) = true := decide_eq_true (by omega)
            have g2 : decide (1 ≤ m) = true := decide_eq_true (by omega)
            have g3 : decide (m ≤ v) = false := decide_eq_false (by omega)
            refine (push_route a b m ha hb (p := pg) (c := capsS S cu) (by (repeat (first | (with_reducible exact List.mem_cons_self) | with_reducible apply List.mem_cons_of_mem))) (by omega) (by rw [capsS_cap HS.out, (show capsS S cu a b = roomOf S a b cu from rfl), HV.out]; exact h2) _ H).mono ?_
            clear H h1 h2
            rintro e w4 ⟨rfl, H⟩
            go_wp2_with (first | go_skip | ((with_reducible show wpList _ _ _ (_ :: _) _ _); (with_reducible apply wpl_loadCH); (· first | exact cell_party | exact cell_i64); (· rfl); (· rfl); (· exact H); (· (repeat (first | (with_reducible exact List.mem_cons_self) | with_reducible apply List.mem_cons_of_mem))); (· (with_reducible first | exact flow_g0 .. | exact flow_g1 .. | exact flow_g2 ..)); (simp only [Act.put, List.setIfInBounds_toArray, List.set_cons_zero, List.set_cons_succ])))
            refine (lpush_H (p := p) (q := q) (S := S) a b cu m ha hb hc hm0 HS.out (H.top2 (.there (.there (.there .here))) (.there (.there (.there .here))))).mono ?_
            clear H
            rintro e w5 ⟨rfl, H⟩
            rw [e1]
            rw [e2] at H
            clear e1 e2
            go_wp2_with (first | go_skip | ((with_reducible show wpList _ _ _ (_ :: _) _ _); (with_reducible apply wpl_loadCH); (· first | exact cell_party | exact cell_i64); (· rfl); (· rfl); (· exact H); (· (repeat (first | (with_reducible exact List.mem_cons_self) | with_reducible apply List.mem_cons_of_mem))); (· (with_reducible first | exact flow_g0 .. | exact flow_g1 .. | exact flow_g2 ..)); (simp only [Act.put, List.setIfInBounds_toArray, List.set_cons_zero, List.set_cons_succ])))
            refine (of_H (p := p) (q := q) (S := S) cu hc HS.out H (by (repeat (first | (with_reducible exact List.mem_cons_self) | with_reducible apply List.mem_cons_of_mem))) (by (repeat (first | (with_reducible exact List.mem_cons_self) | with_reducible apply List.mem_cons_of_mem)))).mono ?_
            clear H
            rintro e w6 ⟨pn, rfl, H⟩
            go_wp2_with (go_skip)
            refine (same_ans (W := w) (c := capsS S cu) (d := capsS S cu) (.pointer (some ⟨pg, 0, none⟩)) (.pointer (some ⟨pn, 0, none⟩)) (all_H (p := pg) (m := true) (by (repeat (first | (with_reducible exact List.mem_cons_self) | with_reducible apply List.mem_cons_of_mem))) (fun h => by cases h)) (all_H (p := pn) (m := true) (by (repeat (first | (with_reducible exact List.mem_cons_self) | with_reducible apply List.mem_cons_of_mem))) (fun h => by cases h)) _ H).mono ?_
            clear H
            rintro e w7 ⟨rfl, H⟩
            rw [show matSame (capsS S cu) (capsS S cu) = true from matSame_iff.2 (fun _ _ _ _ => rfl)]
            go_wp2_with (go_skip)
            refine ⟨⟨k + 1, S, by omega, by go_num, HS.out, HO.out, ?_⟩, ?measure5⟩
            · exact (H.tail.drop (.there (.there .here))).top2 (.there (.there .here)) (.there (.there .here))
            case measure5 => simp [intOf]; omega
          · have e1 : pushE S a b cu m = 0 := by unfold pushE; rw [if_neg h1, if_neg (by rw [HV.out]; exact h2)]
            have g1 : decide (m ≥ 1) = true := decide_eq_true (by omega)
            have g2 : decide (1 ≤ m) = true := decide_eq_true (by omega)
            have g3 : decide (m ≤ v) = true := decide_eq_true (by omega)
            have hcv2 : capsS S cu a b = v := by rw [(show capsS S cu a b = roomOf S a b cu from rfl), HV.out]
            have hab := capsS_in HS.out (show capsS S cu a b ≠ 0 by omega)
            have hrm2 := HS.out.room b a cu
            have hu : upd2 (capsS S cu) a b (capsS S cu a b - m) b a = capsS S cu b a := by unfold upd2; rw [if_neg (fun e => hab.1 e.1.symm)]
            have hm2 : 0 ≤ capsS S cu b a ∧ capsS S cu b a ≤ 2199023255552 := hrm2
            refine (push_ok (p := pg) (c := capsS S cu) a b m hab.2.1 hab.2.2.1 hab.2.2.2.1 hab.2.2.2.2 (H.pull (.there .here)) (by omega) (by omega) (by omega) (by omega) (by omega)).mono ?_
            clear H h1 h2 hab hrm2 hu hm2 hcv2
            rintro e w4 ⟨rfl, H⟩
            rw [Gr_congr (fun x y _ _ => push_caps HS.out e1 x y)] at H
            have HS2 := Lib.hid (HS.out.push a b cu m)
            have HO2 := Lib.hid (fun x y => (push_caps_other (S := S) (a := a) (b := b) m HN.out x y).trans (HO.out x y))
            have HP := Lib.hid (push_P S a b cu m)
            go_wp2_with (first | go_skip | ((with_reducible show wpList _ _ _ (_ :: _) _ _); (with_reducible apply wpl_loadCH); (· first | exact cell_party | exact cell_i64); (· rfl); (· rfl); (· exact H); (· (repeat (first | (with_reducible exact List.mem_cons_self) | with_reducible apply List.mem_cons_of_mem))); (· (with_reducible first | exact flow_g0 .. | exact flow_g1 .. | exact flow_g2 ..)); (simp only [Act.put, List.setIfInBounds_toArray, List.set_cons_zero, List.set_cons_succ])))
            refine (lpush_H (p := p) (q := q) (S := S) a b cu m ha hb hc hm0 HS.out (H.top2 (.there (.there (.there .here))) (.there (.there (.there .here))))).mono ?_
            clear H
            rintro e w5 ⟨rfl, H⟩
            rw [e1]
            rw [← HP.out] at H
            clear e1
            generalize pushS S a b cu m = S2 at *
            go_wp2_with (first | go_skip | ((with_reducible show wpList _ _ _ (_ :: _) _ _); (with_reducible apply wpl_loadCH); (· first | exact cell_party | exact cell_i64); (· rfl); (· rfl); (· exact H); (· (repeat (first | (with_reducible exact List.mem_cons_self) | with_reducible apply List.mem_cons_of_mem))); (· (with_reducible first | exact flow_g0 .. | exact flow_g1 .. | exact flow_g2 ..)); (simp only [Act.put, List.setIfInBounds_toArray, List.set_cons_zero, List.set_cons_succ])))
            refine (of_H (p := p) (q := q) (S := S2) cu hc HS2.out H (by (repeat (first | (with_reducible exact List.mem_cons_self) | with_reducible apply List.mem_cons_of_mem))) (by (repeat (first | (with_reducible exact List.mem_cons_self) | with_reducible apply List.mem_cons_of_mem)))).mono ?_
            clear H
            rintro e w6 ⟨pn, rfl, H⟩
            go_wp2_with (go_skip)
            refine (same_ans (W := w) (c := capsS S2 cu) (d := capsS S2 cu) (.pointer (some ⟨pg, 0, none⟩)) (.pointer (some ⟨pn, 0, none⟩)) (all_H (p := pg) (m := true) (by (repeat (first | (with_reducible exact List.mem_cons_self) | with_reducible apply List.mem_cons_of_mem))) (fun h => by cases h)) (all_H (p := pn) (m := true) (by (repeat (first | (with_reducible exact List.mem_cons_self) | with_reducible apply List.mem_cons_of_mem))) (fun h => by cases h)) _ H).mono ?_
            clear H
            rintro e w7 ⟨rfl, H⟩
            rw [show matSame (capsS S2 cu) (capsS S2 cu) = true from matSame_iff.2 (fun _ _ _ _ => rfl)]
            go_wp2_with (go_skip)
            refine ⟨⟨k + 1, S2, by omega, by go_num, HS2.out, HO2.out, ?_⟩, ?measure6⟩
            · exact ((H.tail.drop (.there (.there (.there .here))))).top2 (.there (.there .here)) (.there (.there .here))
            case measure6 => simp [intOf]; omega
    · obtain rfl : k = fn := by omega
      go_wp2_with (go_skip)
      refine (of_H (p := p) (q := q) (S := S) cv hcv HS.out H (by (repeat (first | (with_reducible exact List.mem_cons_self) | with_reducible apply List.mem_cons_of_mem))) (by (repeat (first | (with_reducible exact List.mem_cons_self) | with_reducible apply List.mem_cons_of_mem)))).mono ?_
      clear H
      rintro e w6 ⟨pn, rfl, H⟩
      go_wp2_with (go_skip)
      refine (same_ans (W := w) (c := capsS S0 cv) (d := capsS S cv) (.pointer (some ⟨po, 0, none⟩)) (.pointer (some ⟨pn, 0, none⟩)) (all_H (p := po) (m := true) (by (repeat (first | (with_reducible exact List.mem_cons_self) | with_reducible apply List.mem_cons_of_mem))) (fun h => by cases h)) (all_H (p := pn) (m := true) (by (repeat (first | (with_reducible exact List.mem_cons_self) | with_reducible apply List.mem_cons_of_mem))) (fun h => by cases h)) _ H).mono ?_
      clear H
      rintro e w7 ⟨rfl, H⟩
      rw [show matSame (capsS S0 cv) (capsS S cv) = true from matSame_iff.2 (fun a b _ _ => (HO.out a b).symm)]
      go_wp2_with (go_skip)
      refine (lives05_H H).mono ?_
      clear H
      rintro e w7 ⟨rfl, H⟩
      go_wp2_with (go_skip)
      go_ret
      exact ⟨rfl, H.low⟩
end Go.Proofs.Ytgobnamhdkbbeaa

/- Payments as lists of pushes: what they make of a ledger. -/
namespace Go.Proofs.Ytgobnamhdkbbeaa
theorem capsS_play {S : Lgr} (G : S.Good) (c : Int) : PlayC (capsS S c) := by
  refine ⟨⟨fun a b => (G.room a b c).1, fun a b h => ?_⟩, fun a => G.room0 c (.inl rfl), fun a b => ?_⟩
  · have h2 := capsS_in G (c := c) (a := a) (b := b) (by omega)
    exact ⟨(mayP_iff a).2 ⟨h2.2.1, h2.2.2.1⟩, (mayP_iff b).2 h2.2.2.2⟩
  · have h1 := G.nums a b c
    have h2 := G.nums b a c
    show roomOf S a b c + roomOf S b a c ≤ _
    unfold roomOf
    omega
/-- Pushes done in a ledger, one behind the other. -/
def pushLs (S : Lgr) (c : Int) : List Flw → Lgr
  | [] => S
  | x :: P => pushLs (pushS S x.f x.t c x.n) c P
theorem pushLs_snoc (c : Int) (x : Flw) : ∀ (P : List Flw) (S : Lgr), pushLs S c (P ++ [x]) = pushS (pushLs S c P) x.f x.t c x.n
  | [], _ => rfl
  | y :: P, S => by
    show pushLs (pushS S y.f y.t c y.n) c (P ++ [x]) = _
    rw [pushLs_snoc c x P]
    rfl
def noDeb (L : List Lin) : List Lin := L.map fun x => { x with deb := 0 }
theorem noDeb_add (L : List Lin) (a b c n : Int) : noDeb (addL L a b c n) = noDeb L := by
  unfold noDeb addL
  rw [List.map_map]
  refine List.map_congr_left fun x _ => ?_
  simp only [Function.comp]
  split <;> rfl
theorem noDeb_push (S : Lgr) (a b c n : Int) : noDeb (pushS S a b c n).L = noDeb S.L := by
  unfold pushS
  split
  · simp only [noDeb_add]
  · rfl
theorem push_now {S : Lgr} {a b c : Nat} {n : Int} (h1 : 1 ≤ n) (h2 : n ≤ capsS S c a b) : pushE S a b c n = 0 := by
  have h3 : n ≤ roomOf S a b c := h2
  unfold pushE
  rw [if_neg (by omega), if_neg (by omega)]
theorem push_next {S : Lgr} (G : S.Good) {a b c : Nat} {n : Int} (h1 : 1 ≤ n) (h2 : n ≤ capsS S c a b) : pushT (capsS S c) a b n = capsS (pushS S a b c n) c := by
  unfold pushT
  rw [if_neg (by omega)]
  funext x y
  exact push_caps G (push_now h1 h2) x y
structure Pushed (S : Lgr) (c : Nat) (P : List Flw) (S' : Lgr) : Prop where
  good : S'.Good
  caps : capsS S' c = pushL (capsS S c) P
  other : ∀ d : Nat, d ≠ c → capsS S' d = capsS S d
  pos : ∀ (d p : Nat), posL S'.L p d = posL S.L p d + (if c = d then netP p P else 0)
  par : S'.P = S.P
  lin : noDeb S'.L = noDeb S.L
theorem pushLs_all (c : Nat) : ∀ (P : List Flw) (S : Lgr), S.Good → Fits (capsS S c) P → Pushed S c P (pushLs S c P)
  | [], S, G, _ => ⟨G, rfl, fun _ _ => rfl, fun d p => by simp [netP, pushLs], rfl, rfl⟩
  | x :: P, S, G, h => by
    obtain ⟨⟨h1, h2, _, _⟩, h3⟩ := h
    have e := push_now h1 h2
    have en := push_next G h1 h2
    rw [en] at h3
    have ih := pushLs_all c P (pushS S x.f x.t c x.n) (G.push _ _ _ _) h3
    refine ⟨ih.good, ?_, fun d hd => ?_, fun d p => ?_, ?_, ?_⟩
    · show _ = pushL (pushT (capsS S c) x.f x.t x.n) P
      rw [en]
      exact ih.caps
    · have := ih.other d hd
      refine Eq.trans this ?_
      funext a b
      exact push_caps_other x.n hd a b
    · have h5 := ih.pos d p
      have h6 := push_pos G e (p : Int) (d : Int)
      show posL (pushLs (pushS S x.f x.t c x.n) c P).L p d = _
      rw [h5, h6]
      by_cases hcd : c = d
      · subst hcd
        rw [if_pos rfl, if_pos rfl, if_pos rfl, netP]
        have e1 : ((p : Int) = (x.t : Int)) ↔ (x.t = p) := by omega
        have e2 : ((p : Int) = (x.f : Int)) ↔ (x.f = p) := by omega
        simp only [e1, e2]
        omega
      · rw [if_neg hcd, if_neg (by omega), if_neg hcd]
        omega
    · show (pushLs (pushS S x.f x.t c x.n) c P).P = S.P
      rw [ih.par, push_P]
    · show noDeb (pushLs (pushS S x.f x.t c x.n) c P).L = _
      rw [ih.lin, noDeb_push]
theorem Pushed.end {S : Lgr} {f t c : Nat} {n got : Int} {P : List Flw} (G : S.Good) (h : RouteOut f t (capsS S c) n P got) : Pushed S c P (pushLs S c P) ∧ Fits (capsS S c) P ∧ 0 ≤ got ∧ (∀ p : Nat, netP p P = (if t = p then got else 0) - (if f = p then got else 0)) ∧ got ≤ max n 0 := by
  have h2 := h.done (capsS_play G c)
  exact ⟨pushLs_all c P S G h2.1, h2.1, h2.2.1, h2.2.2, (h.left (capsS_play G c)).2.2⟩
/-- What a payment answers, and makes. -/
def badPay (f t c : Nat) (n : Int) : Prop := f < 1 ∨ 16 < f ∨ t < 1 ∨ 16 < t ∨ f = t ∨ c < 1 ∨ 8 < c ∨ n < 1 ∨ 1099511627776 < n
instance (f t c : Nat) (n : Int) : Decidable (badPay f t c n) := by unfold badPay; infer_instance
def PayOut (S : Lgr) (f t c : Nat) (n : Int) (k e : Int) (S' : Lgr) : Prop :=
  (badPay f t c n ∧ e = 1 ∧ k = 0 ∧ S' = S) ∨ (¬ badPay f t c n ∧ ((f : Int) ∉ S.P ∨ (t : Int) ∉ S.P) ∧ e = 7 ∧ k = 0 ∧ S' = S) ∨
  (¬ badPay f t c n ∧ (f : Int) ∈ S.P ∧ (t : Int) ∈ S.P ∧ ∃ (Q : List Flw) (got : Int), RouteOut f t (capsS S c) n Q got ∧ ((got < n ∧ e = 11 ∧ k = 0 ∧ S' = S) ∨ (got = n ∧ e = 0 ∧ k = (Q.length : Int) ∧ S' = pushLs S c Q)))
theorem PayOut.good {S S' : Lgr} {f t c : Nat} {n k e : Int} (G : S.Good) (h : PayOut S f t c n k e S') : S'.Good := by
  rcases h with ⟨_, _, _, rfl⟩ | ⟨_, _, _, _, rfl⟩ | ⟨_, _, _, Q, got, h, ⟨_, _, _, rfl⟩ | ⟨_, _, _, rfl⟩⟩
  · exact G
  · exact G
  · exact G
  · exact (Pushed.end G h).1.good
theorem PayOut.det {S S' S2 : Lgr} {f t c : Nat} {n k e k2 e2 : Int} (h : PayOut S f t c n k e S') (g : PayOut S f t c n k2 e2 S2) : k = k2 ∧ e = e2 ∧ S' = S2 := by
  rcases h with ⟨h1, rfl, rfl, rfl⟩ | ⟨h1, h2, rfl, rfl, rfl⟩ | ⟨h1, h2, h3, Q, got, h4, h5⟩
  · rcases g with ⟨_, rfl, rfl, rfl⟩ | ⟨g1, _⟩ | ⟨g1, _⟩
    · exact ⟨rfl, rfl, rfl⟩
    · exact absurd h1 g1
    · exact absurd h1 g1
  · rcases g with ⟨g1, _⟩ | ⟨_, _, rfl, rfl, rfl⟩ | ⟨_, g2, g3, _⟩
    · exact absurd g1 h1
    · exact ⟨rfl, rfl, rfl⟩
    · rcases h2 with h2 | h2 <;> contradiction
  · rcases g with ⟨g1, _⟩ | ⟨_, g2, _⟩ | ⟨_, _, _, Q2, got2, g4, g5⟩
    · exact absurd g1 h1
    · rcases g2 with g2 | g2 <;> contradiction
    · obtain ⟨rfl, rfl⟩ := h4.eq g4
      rcases h5 with ⟨a1, rfl, rfl, rfl⟩ | ⟨a1, rfl, rfl, rfl⟩ <;> rcases g5 with ⟨b1, rfl, rfl, rfl⟩ | ⟨b1, rfl, rfl, rfl⟩
      · exact ⟨rfl, rfl, rfl⟩
      · omega
      · omega
      · exact ⟨rfl, rfl, rfl⟩
end Go.Proofs.Ytgobnamhdkbbeaa

/- A slice literal of whatever elements. -/
namespace Go.Proofs.Ytgobnamhdkbbeaa
open Go.RowKit
set_option linter.unusedSimpArgs false
set_option linter.unusedVariables false
section
variable {W w : World} {l : List Thing}
theorem wpl_bsAny {dst : Option Tmp} {ty : TypeId} {pos : String} {after : Array Edge} {guard : Option (Nat × Bool)} {t e n size bytes : Nat} {z : Value} {ops : Array Oper} {rest : List Oper} {a : Act} {Q : Exit → Act → World → Prop} (T : SlTy Try.prog t e size bytes z) (xs : List (Nat × Operand)) (vs : List (Nat × Value)) (c : Array Value) (hw : Region.wanted ⟨dst, .buildSlice t n xs.toArray, ty, pos, after, guard⟩ (yielded ops a.tmps) = true)
    (hx : xs.map (fun (i, x) => (i, a.eval x)) = vs) (h0 : 0 < n) (h1 : n * size ≤ 65536)
    (hf : Instr.fill (fun i => some (i * size, size)) (Array.map (fun x => z.cells[x % z.cells.size]!) (Array.range (n * size))) vs = some c)
    (H : Heap W l w) (h : ∀ p w', Heap W (Cel p c e :: l) w' → wpList Try.prog ops Q rest (a.put dst (.slice (some ⟨p, 0, none⟩) n n)) w') : wpList Try.prog ops Q (⟨dst, .buildSlice t n xs.toArray, ty, pos, after, guard⟩ :: rest) a w := by
  obtain ⟨i, hi, hz, hsi, hbi⟩ := T.inf
  have h2 := T.pos
  have h3 : n ≤ n * size := Nat.le_mul_of_pos_right _ h2
  have r1 : (sizeOf e).run Try.prog w = .ok size w := by simp [sizeOf, typeInfo, hi, hsi, go_sem]
  have r2 : (zeroValue e).run Try.prog w = .ok z w := by simp [zeroValue, typeInfo, hi, hz, go_sem]
  refine BigFrame.wpList_want hw fun K hK => ?_
  have hrun : (Instr.buildSlice t n (xs.toArray.map fun (i, x) => (i, a.eval x))).run Try.prog w = .ok (.slice (some ⟨w.heap.size, 0, none⟩) n n) (w.alloc (.cells c e)) := by
    unfold Instr.buildSlice
    rw [Sem.run_bind, run_underlying T.und]
    simp only [Result.andThen_ok]
    rw [Sem.run_bind, r1]
    simp only [Result.andThen_ok]
    rw [if_neg (by omega), if_neg (by omega)]
    simp only [Sem.run_bind, r2, Result.andThen_ok, Sem.run_pure]
    have hx2 : (xs.toArray.map (fun (i, x) => (i, a.eval x))).toList = vs := by rw [← hx]; simp
    rw [hx2, hf]
    simp [newRow, go_sem]
  unfold Oper.wp execOp
  simp only [Sem.run_bind, hrun, Result.andThen_ok, Sem.run_pure]
  exact hK _ _ (h _ _ (H.alloc _ _))
end
end Go.Proofs.Ytgobnamhdkbbeaa

/- payments: Most, Pay. -/
namespace Go.Proofs.Ytgobnamhdkbbeaa
open Go.RowKit
set_option linter.unusedSimpArgs false
set_option linter.unusedVariables false
set_option maxRecDepth 100000
abbrev payC (v : Option Addr) (f t c n : Int) : Array Value := #[.pointer v, .int .u8 f, .int .u8 t, .int .u8 c, .int .i64 n]
theorem row_pay : RowTy 109 5 (payC none 0 0 0 0) := ⟨⟨_, Try.underlying109, rfl⟩, by kernel_rfl, by kernel_rfl⟩
theorem pay_all (v : Option Addr) (f t c n : Int) : (payC v f t c n).extract 0 (0 + 5) = payC v f t c n := by simp
theorem pay_cells (v : Option Addr) (f t c n : Int) : Cells 5 (payC v f t c n) := ⟨rfl, by simp [Value.oneCell']⟩
theorem pay_splice (v v' : Option Addr) (f t c n f' t' c' n' : Int) : splice (payC v f t c n) 0 (payC v' f' t' c' n') = payC v' f' t' c' n' := splice_all rfl
theorem pay_sz (v : Option Addr) (f t c n : Int) : (payC v f t c n).size = 5 := rfl
theorem pay_g0 (v : Option Addr) (f t c n : Int) : (payC v f t c n)[0]? = some (.pointer v) := rfl
theorem pay_g1 (v : Option Addr) (f t c n : Int) : (payC v f t c n)[1]? = some (.int .u8 f) := rfl
theorem pay_g2 (v : Option Addr) (f t c n : Int) : (payC v f t c n)[2]? = some (.int .u8 t) := rfl
theorem pay_g3 (v : Option Addr) (f t c n : Int) : (payC v f t c n)[3]? = some (.int .u8 c) := rfl
theorem pay_g4 (v : Option Addr) (f t c n : Int) : (payC v f t c n)[4]? = some (.int .i64 n) := rfl
theorem cell_ledp : CellTy 26 := ⟨⟨_, Try.underlying26, rfl⟩, by kernel_rfl⟩
section
variable {W w : World} {l : List Thing} {p q : Nat} {S : Lgr}
set_option maxHeartbeats 4000000
theorem AnsH.on {W w : World} {l : List Thing} {f : FuncId} {args : Array Value} {v : Value} (_ : Heap W l w) (h : AnsH W l f args v) : AnsH W l f args v := h
theorem absent_A (f t c n : Int) (h1 : LdC p S.P (some q) ∈ l) (h2 : LdM q S.L ∈ l) : AnsH W l 91 #[.agg (payC (some ⟨p, 0, none⟩) f t c n)] (.bool false) := by
  intro w H
  have CP := Lib.hid (fun (x : Thing) (w' : World) (h : Heap W (x :: l) w') => lcopy_H (p := p) (q := q) (S := S) h (List.mem_cons_of_mem _ h1) (List.mem_cons_of_mem _ h2))
  clear h1 h2
  go_enter Try.func91, Try.ntmps91
  go_wp2_with (first | go_skip | ((with_reducible show wpList _ _ _ (_ :: _) _ _); (with_reducible apply wpl_boxRH); (· rfl); (· rfl); (· exact H); (clear H; intro px _ H); (simp only [Act.put, List.setIfInBounds_toArray, List.set_cons_zero, List.set_cons_succ])) | ((with_reducible show wpList _ _ _ (_ :: _) _ _); (with_reducible apply wpl_loadCH); (· exact cell_ledp); (· rfl); (· rfl); (· exact H); (· (repeat (first | (with_reducible exact List.mem_cons_self) | with_reducible apply List.mem_cons_of_mem))); (· exact pay_g0 ..); (simp only [Act.put, List.setIfInBounds_toArray, List.set_cons_zero, List.set_cons_succ])))
  refine (CP.out _ _ H).mono ?_
  clear H
  rintro e w1 ⟨p', q', rfl, H⟩
  go_wp2_with (go_skip)
  go_ret
  exact ⟨rfl, H.tail.tail.tail⟩
theorem pparty_ans (a : Nat) (ha : a ≤ 255) : Ans 113 #[.int .u8 (a : Int)] (.bool (decide (1 ≤ a ∧ a ≤ 16))) := by
  intro w
  have H := Heap.start w
  by_cases h1 : a < 1
  · rw [decide_eq_false (by omega)]
    go_enter Try.func113, Try.ntmps113
    go_wp2_with (go_skip)
    go_ret
    exact ⟨rfl, H.low⟩
  · by_cases h2 : a ≤ 16
    · rw [decide_eq_true (by omega)]
      have d1 : decide ((a : Int) ≤ 16) = true := decide_eq_true (by omega)
      go_enter Try.func113, Try.ntmps113
      go_wp2_with (go_skip)
      go_ret
      exact ⟨rfl, H.low⟩
    · rw [decide_eq_false (by omega)]
      have d1 : decide ((a : Int) ≤ 16) = false := decide_eq_false (by omega)
      go_enter Try.func113, Try.ntmps113
      go_wp2_with (go_skip)
      go_ret
      exact ⟨rfl, H.low⟩
theorem bad_A (v : Option Addr) (f t c : Nat) (n : Int) (hf : f ≤ 255) (ht : t ≤ 255) (hc : c ≤ 255) : AnsH W l 92 #[.agg (payC v (f : Int) (t : Int) (c : Int) n)] (.bool (decide (badPay f t c n))) := by
  intro w H
  have P1 := pparty_ans f hf
  have P2 := pparty_ans t ht
  have hb : badPay f t c n ↔ (¬ (1 ≤ f ∧ f ≤ 16) ∨ ¬ (1 ≤ t ∧ t ≤ 16) ∨ f = t ∨ c < 1 ∨ 8 < c ∨ n < 1 ∨ 1099511627776 < n) := by unfold badPay; omega
  by_cases q0 : ¬ (1 ≤ f ∧ f ≤ 16)
  · rw [decide_eq_true (hb.2 (by omega))]
    clear hb
    rw [decide_eq_false q0] at P1
    go_enter Try.func92, Try.ntmps92
    go_wp2_with (first | go_skip | ((with_reducible show wpList _ _ _ (_ :: _) _ _); (with_reducible apply wpl_boxRH); (· rfl); (· rfl); (· exact H); (clear H; intro px _ H); (simp only [Act.put, List.setIfInBounds_toArray, List.set_cons_zero, List.set_cons_succ])) | ((with_reducible refine Ans.callH (by assumption) H ?_); clear H; intro _ H) | ((with_reducible show wpList _ _ _ (_ :: _) _ _); (with_reducible apply wpl_loadCH); (· first | exact cell_party | exact cell_cur | exact cell_i64); (· rfl); (· rfl); (· exact H); (· (repeat (first | (with_reducible exact List.mem_cons_self) | with_reducible apply List.mem_cons_of_mem))); (· with_reducible first | exact pay_g1 .. | exact pay_g2 .. | exact pay_g3 .. | exact pay_g4 ..); (simp only [Act.put, List.setIfInBounds_toArray, List.set_cons_zero, List.set_cons_succ])))
    go_ret
    exact ⟨rfl, H.tail⟩
  by_cases q1 : ¬ (1 ≤ t ∧ t ≤ 16)
  · rw [decide_eq_true (hb.2 (by omega))]
    clear hb
    rw [decide_eq_true (Decidable.not_not.1 q0)] at P1
    rw [decide_eq_false q1] at P2
    go_enter Try.func92, Try.ntmps92
    go_wp2_with (first | go_skip | ((with_reducible show wpList _ _ _ (_ :: _) _ _); (with_reducible apply wpl_boxRH); (· rfl); (· rfl); (· exact H); (clear H; intro px _ H); (simp only [Act.put, List.setIfInBounds_toArray, List.set_cons_zero, List.set_cons_succ])) | ((with_reducible refine Ans.callH (by assumption) H ?_); clear H; intro _ H) | ((with_reducible show wpList _ _ _ (_ :: _) _ _); (with_reducible apply wpl_loadCH); (· first | exact cell_party | exact cell_cur | exact cell_i64); (· rfl); (· rfl); (· exact H); (· (repeat (first | (with_reducible exact List.mem_cons_self) | with_reducible apply List.mem_cons_of_mem))); (· with_reducible first | exact pay_g1 .. | exact pay_g2 .. | exact pay_g3 .. | exact pay_g4 ..); (simp only [Act.put, List.setIfInBounds_toArray, List.set_cons_zero, List.set_cons_succ])))
    go_ret
    exact ⟨rfl, H.tail⟩
  by_cases q2 : f = t
  · rw [decide_eq_true (hb.2 (by omega))]
    clear hb
    rw [decide_eq_true (Decidable.not_not.1 q0)] at P1
    rw [decide_eq_true (Decidable.not_not.1 q1)] at P2
    have b1 : ((f : Int) == (t : Int)) = true := by simp; omega
    go_enter Try.func92, Try.ntmps92
    go_wp2_with (first | go_skip | ((with_reducible show wpList _ _ _ (_ :: _) _ _); (with_reducible apply wpl_boxRH); (· rfl); (· rfl); (· exact H); (clear H; intro px _ H); (simp only [Act.put, List.setIfInBounds_toArray, List.set_cons_zero, List.set_cons_succ])) | ((with_reducible refine Ans.callH (by assumption) H ?_); clear H; intro _ H) | ((with_reducible show wpList _ _ _ (_ :: _) _ _); (with_reducible apply wpl_loadCH); (· first | exact cell_party | exact cell_cur | exact cell_i64); (· rfl); (· rfl); (· exact H); (· (repeat (first | (with_reducible exact List.mem_cons_self) | with_reducible apply List.mem_cons_of_mem))); (· with_reducible first | exact pay_g1 .. | exact pay_g2 .. | exact pay_g3 .. | exact pay_g4 ..); (simp only [Act.put, List.setIfInBounds_toArray, List.set_cons_zero, List.set_cons_succ])))
    go_ret
    exact ⟨rfl, H.tail⟩
  by_cases q3 : c < 1
  · rw [decide_eq_true (hb.2 (by omega))]
    clear hb
    rw [decide_eq_true (Decidable.not_not.1 q0)] at P1
    rw [decide_eq_true (Decidable.not_not.1 q1)] at P2
    have b1 : ((f : Int) == (t : Int)) = false := by simp; omega
    have dc1 : decide ((c : Int) < 1) = true := decide_eq_true (by omega)
    go_enter Try.func92, Try.ntmps92
    go_wp2_with (first | go_skip | ((with_reducible show wpList _ _ _ (_ :: _) _ _); (with_reducible apply wpl_boxRH); (· rfl); (· rfl); (· exact H); (clear H; intro px _ H); (simp only [Act.put, List.setIfInBounds_toArray, List.set_cons_zero, List.set_cons_succ])) | ((with_reducible refine Ans.callH (by assumption) H ?_); clear H; intro _ H) | ((with_reducible show wpList _ _ _ (_ :: _) _ _); (with_reducible apply wpl_loadCH); (· first | exact cell_party | exact cell_cur | exact cell_i64); (· rfl); (· rfl); (· exact H); (· (repeat (first | (with_reducible exact List.mem_cons_self) | with_reducible apply List.mem_cons_of_mem))); (· with_reducible first | exact pay_g1 .. | exact pay_g2 .. | exact pay_g3 .. | exact pay_g4 ..); (simp only [Act.put, List.setIfInBounds_toArray, List.set_cons_zero, List.set_cons_succ])))
    go_ret
    exact ⟨rfl, H.tail⟩
  by_cases q4 : 8 < c
  · rw [decide_eq_true (hb.2 (by omega))]
    clear hb
    rw [decide_eq_true (Decidable.not_not.1 q0)] at P1
    rw [decide_eq_true (Decidable.not_not.1 q1)] at P2
    have b1 : ((f : Int) == (t : Int)) = false := by simp; omega
    have dc1 : decide ((c : Int) < 1) = false := decide_eq_false (by omega)
    have dc8 : decide ((c : Int) > 8) = true := decide_eq_true (by omega)
    have dc9 : decide (8 < (c : Int)) = true := decide_eq_true (by omega)
    go_enter Try.func92, Try.ntmps92
    go_wp2_with (first | go_skip | ((with_reducible show wpList _ _ _ (_ :: _) _ _); (with_reducible apply wpl_boxRH); (· rfl); (· rfl); (· exact H); (clear H; intro px _ H); (simp only [Act.put, List.setIfInBounds_toArray, List.set_cons_zero, List.set_cons_succ])) | ((with_reducible refine Ans.callH (by assumption) H ?_); clear H; intro _ H) | ((with_reducible show wpList _ _ _ (_ :: _) _ _); (with_reducible apply wpl_loadCH); (· first | exact cell_party | exact cell_cur | exact cell_i64); (· rfl); (· rfl); (· exact H); (· (repeat (first | (with_reducible exact List.mem_cons_self) | with_reducible apply List.mem_cons_of_mem))); (· with_reducible first | exact pay_g1 .. | exact pay_g2 .. | exact pay_g3 .. | exact pay_g4 ..); (simp only [Act.put, List.setIfInBounds_toArray, List.set_cons_zero, List.set_cons_succ])))
    go_ret
    exact ⟨rfl, H.tail⟩
  by_cases q5 : n < 1
  · rw [decide_eq_true (hb.2 (by omega))]
    clear hb
    rw [decide_eq_true (Decidable.not_not.1 q0)] at P1
    rw [decide_eq_true (Decidable.not_not.1 q1)] at P2
    have b1 : ((f : Int) == (t : Int)) = false := by simp; omega
    have dc1 : decide ((c : Int) < 1) = false := decide_eq_false (by omega)
    have dc8 : decide ((c : Int) > 8) = false := decide_eq_false (by omega)
    have dc9 : decide (8 < (c : Int)) = false := decide_eq_false (by omega)
    have dn1 : decide (n < 1) = true := decide_eq_true (by omega)
    go_enter Try.func92, Try.ntmps92
    go_wp2_with (first | go_skip | ((with_reducible show wpList _ _ _ (_ :: _) _ _); (with_reducible apply wpl_boxRH); (· rfl); (· rfl); (· exact H); (clear H; intro px _ H); (simp only [Act.put, List.setIfInBounds_toArray, List.set_cons_zero, List.set_cons_succ])) | ((with_reducible refine Ans.callH (by assumption) H ?_); clear H; intro _ H) | ((with_reducible show wpList _ _ _ (_ :: _) _ _); (with_reducible apply wpl_loadCH); (· first | exact cell_party | exact cell_cur | exact cell_i64); (· rfl); (· rfl); (· exact H); (· (repeat (first | (with_reducible exact List.mem_cons_self) | with_reducible apply List.mem_cons_of_mem))); (· with_reducible first | exact pay_g1 .. | exact pay_g2 .. | exact pay_g3 .. | exact pay_g4 ..); (simp only [Act.put, List.setIfInBounds_toArray, List.set_cons_zero, List.set_cons_succ])))
    go_ret
    exact ⟨rfl, H.tail⟩
  by_cases q6 : 1099511627776 < n
  · rw [decide_eq_true (hb.2 (by omega))]
    clear hb
    rw [decide_eq_true (Decidable.not_not.1 q0)] at P1
    rw [decide_eq_true (Decidable.not_not.1 q1)] at P2
    have b1 : ((f : Int) == (t : Int)) = false := by simp; omega
    have dc1 : decide ((c : Int) < 1) = false := decide_eq_false (by omega)
    have dc8 : decide ((c : Int) > 8) = false := decide_eq_false (by omega)
    have dc9 : decide (8 < (c : Int)) = false := decide_eq_false (by omega)
    have dn1 : decide (n < 1) = false := decide_eq_false (by omega)
    have dn2 : decide (n > 1099511627776) = true := decide_eq_true (by omega)
    have dn3 : decide (1099511627776 < n) = true := decide_eq_true (by omega)
    go_enter Try.func92, Try.ntmps92
    go_wp2_with (first | go_skip | ((with_reducible show wpList _ _ _ (_ :: _) _ _); (with_reducible apply wpl_boxRH); (· rfl); (· rfl); (· exact H); (clear H; intro px _ H); (simp only [Act.put, List.setIfInBounds_toArray, List.set_cons_zero, List.set_cons_succ])) | ((with_reducible refine Ans.callH (by assumption) H ?_); clear H; intro _ H) | ((with_reducible show wpList _ _ _ (_ :: _) _ _); (with_reducible apply wpl_loadCH); (· first | exact cell_party | exact cell_cur | exact cell_i64); (· rfl); (· rfl); (· exact H); (· (repeat (first | (with_reducible exact List.mem_cons_self) | with_reducible apply List.mem_cons_of_mem))); (· with_reducible first | exact pay_g1 .. | exact pay_g2 .. | exact pay_g3 .. | exact pay_g4 ..); (simp only [Act.put, List.setIfInBounds_toArray, List.set_cons_zero, List.set_cons_succ])))
    go_ret
    exact ⟨rfl, H.tail⟩
  rw [decide_eq_false (fun h => by have := hb.1 h; omega)]
  clear hb
  rw [decide_eq_true (Decidable.not_not.1 q0)] at P1
  rw [decide_eq_true (Decidable.not_not.1 q1)] at P2
  have b1 : ((f : Int) == (t : Int)) = false := by simp; omega
  have dc1 : decide ((c : Int) < 1) = false := decide_eq_false (by omega)
  have dc8 : decide ((c : Int) > 8) = false := decide_eq_false (by omega)
  have dc9 : decide (8 < (c : Int)) = false := decide_eq_false (by omega)
  have dn1 : decide (n < 1) = false := decide_eq_false (by omega)
  have dn2 : decide (n > 1099511627776) = false := decide_eq_false (by omega)
  have dn3 : decide (1099511627776 < n) = false := decide_eq_false (by omega)
  go_enter Try.func92, Try.ntmps92
  go_wp2_with (first | go_skip | ((with_reducible show wpList _ _ _ (_ :: _) _ _); (with_reducible apply wpl_boxRH); (· rfl); (· rfl); (· exact H); (clear H; intro px _ H); (simp only [Act.put, List.setIfInBounds_toArray, List.set_cons_zero, List.set_cons_succ])) | ((with_reducible refine Ans.callH (by assumption) H ?_); clear H; intro _ H) | ((with_reducible show wpList _ _ _ (_ :: _) _ _); (with_reducible apply wpl_loadCH); (· first | exact cell_party | exact cell_cur | exact cell_i64); (· rfl); (· rfl); (· exact H); (· (repeat (first | (with_reducible exact List.mem_cons_self) | with_reducible apply List.mem_cons_of_mem))); (· with_reducible first | exact pay_g1 .. | exact pay_g2 .. | exact pay_g3 .. | exact pay_g4 ..); (simp only [Act.put, List.setIfInBounds_toArray, List.set_cons_zero, List.set_cons_succ])))
  go_ret
  exact ⟨rfl, H.tail⟩
theorem strange_A (f t c : Nat) (n : Int) (hf : f ≤ 255) (ht : t ≤ 255) (G : S.Good) (h1 : LdC p S.P (some q) ∈ l) : AnsH W l 93 #[.agg (payC (some ⟨p, 0, none⟩) (f : Int) (t : Int) (c : Int) n)] (.bool (decide ((f : Int) ∉ S.P ∨ (t : Int) ∉ S.P))) := by
  intro w H
  have A1 := Lib.hid (fun (x : Thing) => lhas_H (W := W) (l := x :: l) (p := p) (q := q) (P := S.P) f hf (List.mem_cons_of_mem _ h1) G.par1)
  have A2 := Lib.hid (fun (x : Thing) => lhas_H (W := W) (l := x :: l) (p := p) (q := q) (P := S.P) t ht (List.mem_cons_of_mem _ h1) G.par1)
  by_cases e1 : (f : Int) ∈ S.P
  · by_cases e2 : (t : Int) ∈ S.P
    · rw [decide_eq_false (by rintro (h | h) <;> contradiction)]
      rw [show hasP S.P (f : Int) = true from decide_eq_true e1] at A1
      rw [show hasP S.P (t : Int) = true from decide_eq_true e2] at A2
      clear h1 G e1 e2
      go_enter Try.func93, Try.ntmps93
      go_wp2_with (first | go_skip | ((with_reducible show wpList _ _ _ (_ :: _) _ _); (with_reducible apply wpl_boxRH); (· rfl); (· rfl); (· exact H); (clear H; intro px _ H); (simp only [Act.put, List.setIfInBounds_toArray, List.set_cons_zero, List.set_cons_succ])) | ((with_reducible show wpList _ _ _ (_ :: _) _ _); (with_reducible apply wpl_loadCH); (· first | exact cell_ledp | exact cell_party); (· rfl); (· rfl); (· exact H); (· (repeat (first | (with_reducible exact List.mem_cons_self) | with_reducible apply List.mem_cons_of_mem))); (· with_reducible first | exact pay_g0 .. | exact pay_g1 .. | exact pay_g2 ..); (simp only [Act.put, List.setIfInBounds_toArray, List.set_cons_zero, List.set_cons_succ])))
      have B1 := AnsH.on H (A1.out _)
      have B2 := AnsH.on H (A2.out _)
      go_wp2_with (first | go_skip | ((with_reducible refine AnsH.call (by assumption) H ?_); clear H; intro _ H) | ((with_reducible show wpList _ _ _ (_ :: _) _ _); (with_reducible apply wpl_loadCH); (· first | exact cell_ledp | exact cell_party); (· rfl); (· rfl); (· exact H); (· (repeat (first | (with_reducible exact List.mem_cons_self) | with_reducible apply List.mem_cons_of_mem))); (· with_reducible first | exact pay_g0 .. | exact pay_g1 .. | exact pay_g2 ..); (simp only [Act.put, List.setIfInBounds_toArray, List.set_cons_zero, List.set_cons_succ])))
      go_ret
      exact ⟨rfl, H.tail⟩
    · rw [decide_eq_true (.inr e2)]
      rw [show hasP S.P (f : Int) = true from decide_eq_true e1] at A1
      rw [show hasP S.P (t : Int) = false from decide_eq_false e2] at A2
      clear h1 G e1 e2
      go_enter Try.func93, Try.ntmps93
      go_wp2_with (first | go_skip | ((with_reducible show wpList _ _ _ (_ :: _) _ _); (with_reducible apply wpl_boxRH); (· rfl); (· rfl); (· exact H); (clear H; intro px _ H); (simp only [Act.put, List.setIfInBounds_toArray, List.set_cons_zero, List.set_cons_succ])) | ((with_reducible show wpList _ _ _ (_ :: _) _ _); (with_reducible apply wpl_loadCH); (· first | exact cell_ledp | exact cell_party); (· rfl); (· rfl); (· exact H); (· (repeat (first | (with_reducible exact List.mem_cons_self) | with_reducible apply List.mem_cons_of_mem))); (· with_reducible first | exact pay_g0 .. | exact pay_g1 .. | exact pay_g2 ..); (simp only [Act.put, List.setIfInBounds_toArray, List.set_cons_zero, List.set_cons_succ])))
      have B1 := AnsH.on H (A1.out _)
      have B2 := AnsH.on H (A2.out _)
      go_wp2_with (first | go_skip | ((with_reducible refine AnsH.call (by assumption) H ?_); clear H; intro _ H) | ((with_reducible show wpList _ _ _ (_ :: _) _ _); (with_reducible apply wpl_loadCH); (· first | exact cell_ledp | exact cell_party); (· rfl); (· rfl); (· exact H); (· (repeat (first | (with_reducible exact List.mem_cons_self) | with_reducible apply List.mem_cons_of_mem))); (· with_reducible first | exact pay_g0 .. | exact pay_g1 .. | exact pay_g2 ..); (simp only [Act.put, List.setIfInBounds_toArray, List.set_cons_zero, List.set_cons_succ])))
      go_ret
      exact ⟨rfl, H.tail⟩
  · rw [decide_eq_true (.inl e1)]
    rw [show hasP S.P (f : Int) = false from decide_eq_false e1] at A1
    clear h1 G e1
    go_enter Try.func93, Try.ntmps93
    go_wp2_with (first | go_skip | ((with_reducible show wpList _ _ _ (_ :: _) _ _); (with_reducible apply wpl_boxRH); (· rfl); (· rfl); (· exact H); (clear H; intro px _ H); (simp only [Act.put, List.setIfInBounds_toArray, List.set_cons_zero, List.set_cons_succ])) | ((with_reducible show wpList _ _ _ (_ :: _) _ _); (with_reducible apply wpl_loadCH); (· first | exact cell_ledp | exact cell_party); (· rfl); (· rfl); (· exact H); (· (repeat (first | (with_reducible exact List.mem_cons_self) | with_reducible apply List.mem_cons_of_mem))); (· with_reducible first | exact pay_g0 .. | exact pay_g1 .. | exact pay_g2 ..); (simp only [Act.put, List.setIfInBounds_toArray, List.set_cons_zero, List.set_cons_succ])))
    have B1 := AnsH.on H (A1.out _)
    go_wp2_with (first | go_skip | ((with_reducible refine AnsH.call (by assumption) H ?_); clear H; intro _ H) | ((with_reducible show wpList _ _ _ (_ :: _) _ _); (with_reducible apply wpl_loadCH); (· first | exact cell_ledp | exact cell_party); (· rfl); (· rfl); (· exact H); (· (repeat (first | (with_reducible exact List.mem_cons_self) | with_reducible apply List.mem_cons_of_mem))); (· with_reducible first | exact pay_g0 .. | exact pay_g1 .. | exact pay_g2 ..); (simp only [Act.put, List.setIfInBounds_toArray, List.set_cons_zero, List.set_cons_succ])))
    go_ret
    exact ⟨rfl, H.tail⟩
end
end Go.Proofs.Ytgobnamhdkbbeaa

/- payments: checks, Pay, Most. -/
namespace Go.Proofs.Ytgobnamhdkbbeaa
open Go.RowKit
set_option linter.unusedSimpArgs false
set_option linter.unusedVariables false
set_option maxRecDepth 100000
abbrev fnV (f : FuncId) : Value := .func (.func f) #[] #[]
abbrev chkV (f : FuncId) (e : Int) : Array Value := #[fnV f, .int .i64 e]
abbrev chkC : Array Value := #[fnV 91, .int .i64 2, fnV 92, .int .i64 1, fnV 93, .int .i64 7]
theorem row_chk : RowTy 114 2 #[.nilFunc, .int .i64 0] := ⟨⟨_, Try.underlying114, rfl⟩, by kernel_rfl, by kernel_rfl⟩
theorem chk_cells (f : FuncId) (e : Int) : Cells 2 (chkV f e) := ⟨rfl, by simp [Value.oneCell']⟩
theorem chk_sz (f : FuncId) (e : Int) : (chkV f e).size = 2 := rfl
theorem chk0_sz : (#[.nilFunc, .int .i64 0] : Array Value).size = 2 := rfl
theorem chkC_sz : chkC.size = 6 := rfl
theorem chk_splice (f : FuncId) (e : Int) : splice (#[.nilFunc, .int .i64 0] : Array Value) 0 (chkV f e) = chkV f e := splice_all rfl
theorem chk_0 : chkC.extract 0 (0 + 2) = chkV 91 2 := by simp
theorem chk_1 : chkC.extract 2 (2 + 2) = chkV 92 1 := by simp
theorem chk_2 : chkC.extract 4 (4 + 2) = chkV 93 7 := by simp
theorem chk_g0 (f : FuncId) (e : Int) : (chkV f e)[0]? = some (fnV f) := rfl
theorem chk_g1 (f : FuncId) (e : Int) : (chkV f e)[1]? = some (.int .i64 e) := rfl
theorem cell_fn : CellTy 112 := ⟨⟨_, Try.underlying112, rfl⟩, by kernel_rfl⟩
theorem cell_err : CellTy 35 := ⟨⟨_, Try.underlying35, rfl⟩, by kernel_rfl⟩
theorem slChk : SlTy Try.prog 110 114 2 16 (.agg #[.nilFunc, .int .i64 0]) := slTy_mk Try.underlying110 (by kernel_rfl) rfl (by decide)
section
variable {W w : World} {l : List Thing} {p q : Nat} {S : Lgr}
set_option maxHeartbeats 8000000
theorem checks_H (H : Heap W l w) : Calls Try.prog 58 #[] w fun e w' => ∃ g, e = .returned (.slice (some ⟨g, 0, none⟩) 3 3) ∧ Heap W (Cel g chkC 114 :: l) w' := by
  go_enter Try.func58, Try.ntmps58
  go_wp2_with (first
    | ((with_reducible show wpList _ _ _ (_ :: _) _ _); (with_reducible apply wpl_bsAny (n := 3) slChk _ _ chkC); (· rfl); (· rfl); (· decide); (· decide); (· kernel_rfl); (· exact H); (clear H; intro g _ H); (simp only [Act.put, List.setIfInBounds_toArray, List.set_cons_zero, List.set_cons_succ]))
    | go_skip)
  go_ret
  exact ⟨g, rfl, H⟩
end
end Go.Proofs.Ytgobnamhdkbbeaa
