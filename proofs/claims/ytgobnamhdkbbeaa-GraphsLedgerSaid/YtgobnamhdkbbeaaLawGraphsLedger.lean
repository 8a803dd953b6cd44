/- The walk of GraphsLedger. -/
import Derived.Test.YtgobnamhdkbbeaaLawGraphsPair
import Derived.Test.YtgobnamhdkbbeaaLedRoom
namespace Go.Proofs.Ytgobnamhdkbbeaa
open Go.RowKit
set_option linter.unusedSimpArgs false
set_option linter.unusedVariables false
attribute [local go_sem high] run_min2
theorem flwL_row1 {F : List Flw} {k : Nat} (h : k < F.length) : k * 3 + 3 ≤ (flwL F).length ∧ (((flwL F).drop (k * 3)).take 3).toArray = flow F[k].f F[k].t F[k].n := by
  refine ⟨by rw [flwL_len]; omega, ?_⟩
  rw [flwL_at F k h]
  rfl
section
variable {S : Lgr}
/-- A push, on a ledger and on its rooms. -/
theorem push_caps (G : S.Good) {a b c : Nat} {n : Int} (h : pushE S a b c n = 0) (x y : Nat) : pushC (capsS S c) a b n x y = capsS (pushS S a b c n) c x y := by
  obtain ⟨h1, h2, h3, h4, h5⟩ := G.push0 h
  have hne : a ≠ b := fun e => h3 (by rw [e])
  have hr := push_room G h
  rw [pair_get hne]
  unfold pairD capsS
  by_cases e1 : x = a ∧ y = b
  · obtain ⟨rfl, rfl⟩ := e1
    rw [if_pos ⟨rfl, rfl⟩, hr.1]
    rfl
  · rw [if_neg e1]
    by_cases e2 : x = b ∧ y = a
    · obtain ⟨rfl, rfl⟩ := e2
      rw [if_pos ⟨rfl, rfl⟩, hr.2]
    · rw [if_neg e2, Int.add_zero, push_room_other]
      rintro ⟨-, h | h⟩
      · exact e1 ⟨by omega, by omega⟩
      · exact e2 ⟨by omega, by omega⟩
theorem push_caps_other {a b c d : Nat} (n : Int) (h : d ≠ c) (x y : Nat) : capsS (pushS S a b c n) d x y = capsS S d x y :=
  push_room_other (fun e => h (by have := e.1; omega))
end
theorem Gr_congr {p : Nat} {c d : Caps} (h : ∀ a b, a < 17 → b < 17 → c a b = d a b) : Gr p c = Gr p d := by unfold Gr; rw [gr_congr h]
structure GLedR (W : World) (S0 : Lgr) (cu cv pg po p q n : Nat) (i : Value) (wr : World) : Prop where
  out : ∃ (k : Nat) (S : Lgr), k ≤ n ∧ i = .int .i64 (k : Int) ∧ S.Good ∧ (∀ a b, capsS S cv a b = capsS S0 cv a b) ∧ Heap W [Gr pg (capsS S cu), Gr po (capsS S0 cv), LdC p S.P (some q), LdM q S.L] wr
set_option maxRecDepth 100000
set_option maxHeartbeats 8000000
theorem graphsLedger_great (w : World) (ea fa : Option Addr) (an ac fn fc cu : Nat) (hn : 120 < an ∨ 40 < fn) (hm : an ≤ maxLen) (hm2 : fn ≤ maxLen) :
    Calls Try.prog 3 #[.slice ea an ac, .int .u8 (cu : Int), .slice fa fn fc] w fun e w' => e = .returned (.bool true) ∧ Below w.heap.size w w' := by
  have H := Heap.start w
  unfold maxLen at hm hm2
  rcases (show 120 < (an : Int) ∨ ¬ (120 < (an : Int)) ∧ 40 < (fn : Int) from by omega) with h1 | ⟨h1, h2⟩
  all_goals
    clear hn
    go_enter Try.func3, Try.ntmps3
    go_wp2_with (first | go_skip)
    refine (lives05_H H).mono ?_
    clear H
    rintro e w7 ⟨rfl, H⟩
    go_wp2_with (go_skip)
    go_ret
    exact ⟨rfl, H.low⟩
theorem graphsLedger_main (w : World) (ea fa : Option Addr) (an ac fn fc cu cv : Nat) (F : List LAct) (X : List Flw) (hl : F.length = an) (hn : an ≤ 120) (hF : ∀ x ∈ F, ActOk x) (R : Rd w ea (actL F)) (hc : cu ≤ 255) (hxl : X.length = fn) (hfn : fn ≤ 40) (hX : ∀ x ∈ X, FlwOk x) (RX : Rd w fa (flwL X)) (hcv : cv ≤ 255) (hne : cv ≠ cu) (hwr : IntKind.u8.wrap ((cu : Int) + 1) = (cv : Int)) :
    Calls Try.prog 3 #[.slice ea an ac, .int .u8 (cu : Int), .slice fa fn fc] w fun e w' => e = .returned (.bool true) ∧ Below w.heap.size w w' := by
  have H := Heap.start w
  have hcnt : ¬ (120 < (an : Int)) := by omega
  have hcnt2 : ¬ (40 < (fn : Int)) := by omega
  have HR := Lib.hid R
  have HL := Lib.hid hl
  have HF := Lib.hid hF
  have HX := Lib.hid RX
  have HXL := Lib.hid hxl
  have HXF := Lib.hid hX
  have HN := Lib.hid hne
  clear R hl hF RX hxl hX hne
  go_enter Try.func3, Try.ntmps3
  go_wp2_with (go_skip)
  refine (made_H ea an ac F HL.out hn HF.out (fun l' w' _ H' => HR.out.below H'.low) H).mono ?_
  clear H
  rintro e w1 ⟨p, q, rfl, H⟩
  have HG := Lib.hid (madeS_good F)
  generalize hS : madeS F = S0 at *
  clear hS
  go_wp2_with (go_skip)
  refine (of_H (p := p) (q := q) (S := S0) cu hc HG.out H (by (repeat (first | (with_reducible exact List.mem_cons_self) | with_reducible apply List.mem_cons_of_mem))) (by (repeat (first | (with_reducible exact List.mem_cons_self) | with_reducible apply List.mem_cons_of_mem)))).mono ?_
  clear H
  rintro e w2 ⟨pg, rfl, H⟩
  go_wp2_with (go_skip)
  refine (of_H (p := p) (q := q) (S := S0) cv hcv HG.out H (by (repeat (first | (with_reducible exact List.mem_cons_self) | with_reducible apply List.mem_cons_of_mem))) (by (repeat (first | (with_reducible exact List.mem_cons_self) | with_reducible apply List.mem_cons_of_mem)))).mono ?_
  clear H
  rintro e w3 ⟨po, rfl, H⟩
  replace H := H.perm (.swap _ _ _)
  go_wp2_with (go_skip)
  have H0 := H
  clear H
  go_loopw [10] (fun i wr => GLedR w S0 cu cv pg po p q fn i wr) (fun i _ => fn - (intOf i).toNat)
  case atStart => exact ⟨0, S0, Nat.zero_le _, rfl, HG.out, fun _ _ => rfl, H0⟩
  case round =>
    obtain ⟨k, S, hk, rfl, HS, HO, H⟩ := hrel.out
    clear H0 hrel
    have HS := Lib.hid HS
    have HO := Lib.hid HO
    by_cases hlt : k < fn
    · have hkX : k < X.length := by rw [HXL.out]; exact hlt
      have hlen := (flwL_row1 hkX).1
      have hrow := (flwL_row1 hkX).2
      have hok := HXF.out X[k] (List.getElem_mem hkX)
      generalize X[k] = x at *
      obtain ⟨a, b, n⟩ := x
      obtain ⟨ha, hb, hn0, hn1⟩ := hok
      simp only at ha hb hn0 hn1 hrow
      have HRd0 := HX.out.below H.low
      obtain ⟨ba, oa, rfl, _⟩ := HRd0.lt (by omega)
      have HRd := Lib.hid HRd0
      clear HRd0 hkX
      have hrm := HS.out.room a b cu
      have t5 : (roomOf S a b cu != roomOf S a b cu) = false := by simp
      go_wp2_with (first
        | go_skip
        | ((with_reducible show wpList _ _ _ (_ :: _) _ _); (with_reducible apply wpl_loadRdR row_flow); (· rfl); (· rfl); (· exact HRd.out); (· rfl); (· exact hlen); (· decide); (· exact hrow); (simp only [Act.put, List.setIfInBounds_toArray, List.set_cons_zero, List.set_cons_succ]))
        | ((with_reducible show wpList _ _ _ (_ :: _) _ _); (with_reducible apply wpl_allocRH row_flow); (· rfl); (· exact H); (clear H; intro px _ H); (simp only [Act.put, List.setIfInBounds_toArray, List.set_cons_zero, List.set_cons_succ]))
        | ((with_reducible show wpList _ _ _ (_ :: _) _ _); (with_reducible apply wpl_storeRH row_flow); (· rfl); (· rfl); (· rfl); (· with_reducible exact flow_cells ..); (· exact H); (· (repeat (first | (with_reducible exact List.mem_cons_self) | with_reducible apply List.mem_cons_of_mem))); (· (simp only [flow_sz, Nat.reduceAdd, Nat.reduceLeDiff, Nat.le_refl]; done)); (· with_reducible exact flow_splice ..); (· (repeat (first | (with_reducible exact Repl.here) | with_reducible apply Repl.there))); (clear H; intro _ H); (simp only [Act.put, List.setIfInBounds_toArray, List.set_cons_zero, List.set_cons_succ])))
      clear hrow hlen HRd
      have R1 := cap_H (W := w) (l := [Cel px (flow a b n) 32, Gr pg (capsS S cu), Gr po (capsS S0 cv), LdC p S.P (some q), LdM q S.L]) (p := pg) (c := capsS S cu) a b ha hb (by (repeat (first | (with_reducible exact List.mem_cons_self) | with_reducible apply List.mem_cons_of_mem)))
      have R2 := lroom_H (W := w) (l := [Cel px (flow a b n) 32, Gr pg (capsS S cu), Gr po (capsS S0 cv), LdC p S.P (some q), LdM q S.L]) (p := p) (q := q) (S := S) a b cu ha hb hc HS.out (by (repeat (first | (with_reducible exact List.mem_cons_self) | with_reducible apply List.mem_cons_of_mem))) (by (repeat (first | (with_reducible exact List.mem_cons_self) | with_reducible apply List.mem_cons_of_mem)))
      rw [capsS_cap HS.out, show capsS S cu a b = roomOf S a b cu from rfl] at R1
      generalize hv : roomOf S a b cu = v at *
      refine wp_region_H H (by kernel_rfl) (by kernel_rfl) ?_
      repeat (first | go_big_quiet_skip | ((with_reducible apply wpQ_loadCH); (· first | exact cell_party | exact cell_i64); (· rfl); (· rfl); (· (repeat (first | (with_reducible exact List.mem_cons_self) | with_reducible apply List.mem_cons_of_mem))); (· (with_reducible first | exact flow_g0 .. | exact flow_g1 .. | exact flow_g2 ..)); (simp only [Act.put, List.setIfInBounds_toArray, List.set_cons_zero, List.set_cons_succ])) | go_big_quiet_step ((with_reducible first | exact AnsH.quiet (by assumption) | exact Ans.quietH (by assumption))))
      refine wpQuiet_nil ?_
      clear H
      intro _ H
      have HV := Lib.hid hv
      clear hv t5
      rcases Nat.mod_two_eq_zero_or_one k with he | he
      · have h8 : Int.tmod (k : Int) 2 = 0 := by rw [Int.tmod_eq_emod_of_nonneg (by omega)]; omega
        clear he
        obtain ⟨m, hmin⟩ : ∃ m, min n v = m := ⟨_, rfl⟩
        have hm0 : -9223372036854775808 ≤ m ∧ m ≤ 9223372036854775807 := by omega
        go_wp2_with (go_skip)
        refine wp_region_H_tail 10 H (by kernel_rfl) (by kernel_rfl) ?_
        simp only [List.take_succ_cons, List.take_zero, List.drop_succ_cons, List.drop_zero]
        repeat (first | go_big_quiet_skip | ((with_reducible apply wpQ_loadCH); (· first | exact cell_party | exact cell_i64); (· rfl); (· rfl); (· (repeat (first | (with_reducible exact List.mem_cons_self) | with_reducible apply List.mem_cons_of_mem))); (· (with_reducible first | exact flow_g0 .. | exact flow_g1 .. | exact flow_g2 ..)); (simp only [Act.put, List.setIfInBounds_toArray, List.set_cons_zero, List.set_cons_succ])) | go_big_quiet_step ((with_reducible first | exact AnsH.quiet (by assumption) | exact Ans.quietH (by assumption))))
        refine wpQuiet_nil ?_
        clear H
        intro _ H
        try rw [hmin]
        clear hmin R1 R2 hn0 hn1 h8
        have R3 := cap_H (W := w) (l := [Cel px (flow a b m) 32, Gr pg (capsS S cu), Gr po (capsS S0 cv), LdC p S.P (some q), LdM q S.L]) (p := pg) (c := capsS S cu) a b ha hb (by (repeat (first | (with_reducible exact List.mem_cons_self) | with_reducible apply List.mem_cons_of_mem)))
        rw [capsS_cap HS.out, (show capsS S cu a b = roomOf S a b cu from rfl), HV.out] at R3
        go_wp2_with (first | go_skip | (first | ((with_reducible show wpList _ _ _ (_ :: _) _ _); (with_reducible apply wpl_storeIH); (· exact cell_i64); (· rfl); (· rfl); (· rfl); (· exact H); (· (repeat (first | (with_reducible exact List.mem_cons_self) | with_reducible apply List.mem_cons_of_mem))); (· (simp only [flow_sz, Nat.reduceLT]; done)); (· (with_reducible first | exact flow_s0 .. | exact flow_s1 .. | exact flow_s2 ..)); (· (repeat (first | (with_reducible exact Repl.here) | with_reducible apply Repl.there))); (clear H; intro _ H); (simp only [Act.put, List.setIfInBounds_toArray, List.set_cons_zero, List.set_cons_succ])) | ((with_reducible show wpList _ _ _ (_ :: _) _ _); (with_reducible apply wpl_storeBH); (· exact cell_i64); (· rfl); (· rfl); (· rfl); (· exact H); (· (repeat (first | (with_reducible exact List.mem_cons_self) | with_reducible apply List.mem_cons_of_mem))); (· (simp only [flow_sz, Nat.reduceLT]; done)); (· (with_reducible first | exact flow_s0 .. | exact flow_s1 .. | exact flow_s2 ..)); (· (repeat (first | (with_reducible exact Repl.here) | with_reducible apply Repl.there))); (clear H; intro _ H); (simp only [Act.put, List.setIfInBounds_toArray, List.set_cons_zero, List.set_cons_succ])) | ((with_reducible show wpList _ _ _ (_ :: _) _ _); (with_reducible apply wpl_storeSH); (· exact cell_i64); (· rfl); (· rfl); (· rfl); (· exact H); (· (repeat (first | (with_reducible exact List.mem_cons_self) | with_reducible apply List.mem_cons_of_mem))); (· (simp only [flow_sz, Nat.reduceLT]; done)); (· (with_reducible first | exact flow_s0 .. | exact flow_s1 .. | exact flow_s2 ..)); (· (repeat (first | (with_reducible exact Repl.here) | with_reducible apply Repl.there))); (clear H; intro _ H); (simp only [Act.put, List.setIfInBounds_toArray, List.set_cons_zero, List.set_cons_succ])) | ((with_reducible show wpList _ _ _ (_ :: _) _ _); (with_reducible apply wpl_storePH); (· exact cell_i64); (· rfl); (· rfl); (· rfl); (· exact H); (· (repeat (first | (with_reducible exact List.mem_cons_self) | with_reducible apply List.mem_cons_of_mem))); (· (simp only [flow_sz, Nat.reduceLT]; done)); (· (with_reducible first | exact flow_s0 .. | exact flow_s1 .. | exact flow_s2 ..)); (· (repeat (first | (with_reducible exact Repl.here) | with_reducible apply Repl.there))); (clear H; intro _ H); (simp only [Act.put, List.setIfInBounds_toArray, List.set_cons_zero, List.set_cons_succ]))) | ((with_reducible refine AnsH.call (by assumption) H ?_); clear H; intro _ H) | ((with_reducible show wpList _ _ _ (_ :: _) _ _); (with_reducible apply wpl_loadCH); (· first | exact cell_party | exact cell_i64); (· rfl); (· rfl); (· exact H); (· (repeat (first | (with_reducible exact List.mem_cons_self) | with_reducible apply List.mem_cons_of_mem))); (· (with_reducible first | exact flow_g0 .. | exact flow_g1 .. | exact flow_g2 ..)); (simp only [Act.put, List.setIfInBounds_toArray, List.set_cons_zero, List.set_cons_succ])))
        clear R3
        by_cases h1 : m < 1
        · have e1 : pushE S a b cu m = 1 := by unfold pushE; rw [if_pos h1]
          have e2 : pushS S a b cu m = S := by unfold pushS; rw [if_neg (by rw [e1]; decide)]
          have g1 : decide (m ≥ 1) = false := decide_eq_false (by omega)
          have g2 : decide (1 ≤ m) = false := decide_eq_false (by omega)
          refine (push_arg a b m (p := pg) (c := capsS S cu) (by (repeat (first | (with_reducible exact List.mem_cons_self) | with_reducible apply List.mem_cons_of_mem))) h1 _ H).mono ?_
          clear H h1
          rintro e w4 ⟨rfl, H⟩
          go_wp2_with (first | go_skip | ((with_reducible show wpList _ _ _ (_ :: _) _ _); (with_reducible apply wpl_loadCH); (· first | exact cell_party | exact cell_i64); (· rfl); (· rfl); (· exact H); (· (repeat (first | (with_reducible exact List.mem_cons_self) | with_reducible apply List.mem_cons_of_mem))); (· (with_reducible first | exact flow_g0 .. | exact flow_g1 .. | exact flow_g2 ..)); (simp only [Act.put, List.setIfInBounds_toArray, List.set_cons_zero, List.set_cons_succ])))
          refine (lpush_H (p := p) (q := q) (S := S) a b cu m ha hb hc hm0 HS.out (H.top2 (.there (.there (.there .here))) (.there (.there (.there .here))))).mono ?_
          clear H
          rintro e w5 ⟨rfl, H⟩
          rw [e1]
          rw [e2] at H
          clear e1 e2
          go_wp2_with (first | go_skip | ((with_reducible show wpList _ _ _ (_ :: _) _ _); (with_reducible apply wpl_loadCH); (· first | exact cell_party | exact cell_i64); (· rfl); (· rfl); (· exact H); (· (repeat (first | (with_reducible exact List.mem_cons_self) | with_reducible apply List.mem_cons_of_mem))); (· (with_reducible first | exact flow_g0 .. | exact flow_g1 .. | exact flow_g2 ..)); (simp only [Act.put, List.setIfInBounds_toArray, List.set_cons_zero, List.set_cons_succ])))
          refine (of_H (p := p) (q := q) (S := S) cu hc HS.out H (by (repeat (first | (with_reducible exact List.mem_cons_self) | with_reducible apply List.mem_cons_of_mem))) (by (repeat (first | (with_reducible exact List.mem_cons_self) | with_reducible apply List.mem_cons_of_mem)))).mono ?_
          clear H
          rintro e w6 ⟨pn, rfl, H⟩
          go_wp2_with (go_skip)
          refine (same_ans (W := w) (c := capsS S cu) (d := capsS S cu) (.pointer (some ⟨pg, 0, none⟩)) (.pointer (some ⟨pn, 0, none⟩)) (all_H (p := pg) (m := true) (by (repeat (first | (with_reducible exact List.mem_cons_self) | with_reducible apply List.mem_cons_of_mem))) (fun h => by cases h)) (all_H (p := pn) (m := true) (by (repeat (first | (with_reducible exact List.mem_cons_self) | with_reducible apply List.mem_cons_of_mem))) (fun h => by cases h)) _ H).mono ?_
          clear H
          rintro e w7 ⟨rfl, H⟩
          rw [show matSame (capsS S cu) (capsS S cu) = true from matSame_iff.2 (fun _ _ _ _ => rfl)]
          go_wp2_with (go_skip)
          refine ⟨⟨k + 1, S, by omega, by go_num, HS.out, HO.out, ?_⟩, ?measure1⟩
          · exact (H.tail.drop (.there (.there .here))).top2 (.there (.there .here)) (.there (.there .here))
          case measure1 => simp [intOf]; omega
        · by_cases h2 : v < m
          · have e1 : pushE S a b cu m = 11 := by unfold pushE; rw [if_neg h1, if_pos (by rw [HV.out]; exact h2)]
            have e2 : pushS S a b cu m = S := by unfold pushS; rw [if_neg (by rw [e1]; decide)]
            have g1 : decide (m ≥ 1) = true := decide_eq_true (by omega)
            have g2 : decide (1 ≤ m) = true := decide_eq_true (by omega)
            have g3 : decide (m ≤ v) = false := decide_eq_false (by omega)
            refine (push_route a b m ha hb (p := pg) (c := capsS S cu) (by (repeat (first | (with_reducible exact List.mem_cons_self) | with_reducible apply List.mem_cons_of_mem))) (by omega) (by rw [capsS_cap HS.out, (show capsS S cu a b = roomOf S a b cu from rfl), HV.out]; exact h2) _ H).mono ?_
            clear H h1 h2
            rintro e w4 ⟨rfl, H⟩
            go_wp2_with (first | go_skip | ((with_reducible show wpList _ _ _ (_ :: _) _ _); (with_reducible apply wpl_loadCH); (· first | exact cell_party | exact cell_i64); (· rfl); (· rfl); (· exact H); (· (repeat (first | (with_reducible exact List.mem_cons_self) | with_reducible apply List.mem_cons_of_mem))); (· (with_reducible first | exact flow_g0 .. | exact flow_g1 .. | exact flow_g2 ..)); (simp only [Act.put, List.setIfInBounds_toArray, List.set_cons_zero, List.set_cons_succ])))
            refine (lpush_H (p := p) (q := q) (S := S) a b cu m ha hb hc hm0 HS.out (H.top2 (.there (.there (.there .here))) (.there (.there (.there .here))))).mono ?_
            clear H
            rintro e w5 ⟨rfl, H⟩
            rw [e1]
            rw [e2] at H
            clear e1 e2
            go_wp2_with (first | go_skip | ((with_reducible show wpList _ _ _ (_ :: _) _ _); (with_reducible apply wpl_loadCH); (· first | exact cell_party | exact cell_i64); (· rfl); (· rfl); (· exact H); (· (repeat (first | (with_reducible exact List.mem_cons_self) | with_reducible apply List.mem_cons_of_mem))); (· (with_reducible first | exact flow_g0 .. | exact flow_g1 .. | exact flow_g2 ..)); (simp only [Act.put, List.setIfInBounds_toArray, List.set_cons_zero, List.set_cons_succ])))
            refine (of_H (p := p) (q := q) (S := S) cu hc HS.out H (by (repeat (first | (with_reducible exact List.mem_cons_self) | with_reducible apply List.mem_cons_of_mem))) (by (repeat (first | (with_reducible exact List.mem_cons_self) | with_reducible apply List.mem_cons_of_mem)))).mono ?_
            clear H
            rintro e w6 ⟨pn, rfl, H⟩
            go_wp2_with (go_skip)
            refine (same_ans (W := w) (c := capsS S cu) (d := capsS S cu) (.pointer (some ⟨pg, 0, none⟩)) (.pointer (some ⟨pn, 0, none⟩)) (all_H (p := pg) (m := true) (by (repeat (first | (with_reducible exact List.mem_cons_self) | with_reducible apply List.mem_cons_of_mem))) (fun h => by cases h)) (all_H (p := pn) (m := true) (by (repeat (first | (with_reducible exact List.mem_cons_self) | with_reducible apply List.mem_cons_of_mem))) (fun h => by cases h)) _ H).mono ?_
            clear H
            rintro e w7 ⟨rfl, H⟩
            rw [show matSame (capsS S cu) (capsS S cu) = true from matSame_iff.2 (fun _ _ _ _ => rfl)]
            go_wp2_with (go_skip)
            refine ⟨⟨k + 1, S, by omega, by go_num, HS.out, HO.out, ?_⟩, ?measure2⟩
            · exact (H.tail.drop (.there (.there .here))).top2 (.there (.there .here)) (.there (.there .here))
            case measure2 => simp [intOf]; omega
          · have e1 : pushE S a b cu m = 0 := by unfold pushE; rw [if_neg h1, if_neg (by rw [HV.out]; exact h2)]
            have g1 : decide (m ≥ 1) = true := decide_eq_true (by omega)
            have g2 : decide (1 ≤ m) = true := decide_eq_true (by omega)
            have g3 : decide (m ≤ v) = true := decide_eq_true (by omega)
            have hcv2 : capsS S cu a b = v := by rw [(show capsS S cu a b = roomOf S a b cu from rfl), HV.out]
            have hab := capsS_in HS.out (show capsS S cu a b ≠ 0 by omega)
            have hrm2 := HS.out.room b a cu
            have hu : upd2 (capsS S cu) a b (capsS S cu a b - m) b a = capsS S cu b a := by unfold upd2; rw [if_neg (fun e => hab.1 e.1.symm)]
            have hm2 : 0 ≤ capsS S cu b a ∧ capsS S cu b a ≤ 2199023255552 := hrm2
            refine (push_ok (p := pg) (c := capsS S cu) a b m hab.2.1 hab.2.2.1 hab.2.2.2.1 hab.2.2.2.2 (H.pull (.there .here)) (by omega) (by omega) (by omega) (by omega) (by omega)).mono ?_
            clear H h1 h2 hab hrm2 hu hm2 hcv2
            rintro e w4 ⟨rfl, H⟩
            rw [Gr_congr (fun x y _ _ => push_caps HS.out e1 x y)] at H
            have HS2 := Lib.hid (HS.out.push a b cu m)
            have HO2 := Lib.hid (fun x y => (push_caps_other (S := S) (a := a) (b := b) m HN.out x y).trans (HO.out x y))
            have HP := Lib.hid (push_P S a b cu m)
            go_wp2_with (first | go_skip | ((with_reducible show wpList _ _ _ (_ :: _) _ _); (with_reducible apply wpl_loadCH); (· first | exact cell_party | exact cell_i64); (· rfl); (· rfl); (· exact H); (· (repeat (first | (with_reducible exact List.mem_cons_self) | with_reducible apply List.mem_cons_of_mem))); (· (with_reducible first | exact flow_g0 .. | exact flow_g1 .. | exact flow_g2 ..)); (simp only [Act.put, List.setIfInBounds_toArray, List.set_cons_zero, List.set_cons_succ])))
            refine (lpush_H (p := p) (q := q) (S := S) a b cu m ha hb hc hm0 HS.out (H.top2 (.there (.there (.there .here))) (.there (.there (.there .here))))).mono ?_
            clear H
            rintro e w5 ⟨rfl, H⟩
            rw [e1]
            rw [← HP.out] at H
            clear e1
            generalize pushS S a b cu m = S2 at *
            go_wp2_with (first | go_skip | ((with_reducible show wpList _ _ _ (_ :: _) _ _); (with_reducible apply wpl_loadCH); (· first | exact cell_party | exact cell_i64); (· rfl); (· rfl); (· exact H); (· (repeat (first | (with_reducible exact List.mem_cons_self) | with_reducible apply List.mem_cons_of_mem))); (· (with_reducible first | exact flow_g0 .. | exact flow_g1 .. | exact flow_g2 ..)); (simp only [Act.put, List.setIfInBounds_toArray, List.set_cons_zero, List.set_cons_succ])))
            refine (of_H (p := p) (q := q) (S := S2) cu hc HS2.out H (by (repeat (first | (with_reducible exact List.mem_cons_self) | with_reducible apply List.mem_cons_of_mem))) (by (repeat (first | (with_reducible exact List.mem_cons_self) | with_reducible apply List.mem_cons_of_mem)))).mono ?_
            clear H
            rintro e w6 ⟨pn, rfl, H⟩
            go_wp2_with (go_skip)
            refine (same_ans (W := w) (c := capsS S2 cu) (d := capsS S2 cu) (.pointer (some ⟨pg, 0, none⟩)) (.pointer (some ⟨pn, 0, none⟩)) (all_H (p := pg) (m := true) (by (repeat (first | (with_reducible exact List.mem_cons_self) | with_reducible apply List.mem_cons_of_mem))) (fun h => by cases h)) (all_H (p := pn) (m := true) (by (repeat (first | (with_reducible exact List.mem_cons_self) | with_reducible apply List.mem_cons_of_mem))) (fun h => by cases h)) _ H).mono ?_
            clear H
            rintro e w7 ⟨rfl, H⟩
            rw [show matSame (capsS S2 cu) (capsS S2 cu) = true from matSame_iff.2 (fun _ _ _ _ => rfl)]
            go_wp2_with (go_skip)
            refine ⟨⟨k + 1, S2, by omega, by go_num, HS2.out, HO2.out, ?_⟩, ?measure3⟩
            · exact ((H.tail.drop (.there (.there (.there .here))))).top2 (.there (.there .here)) (.there (.there .here))
            case measure3 => simp [intOf]; omega
      · have h8 : Int.tmod (k : Int) 2 = 1 := by rw [Int.tmod_eq_emod_of_nonneg (by omega)]; omega
        clear he
        have hm0 : -9223372036854775808 ≤ n ∧ n ≤ 9223372036854775807 := ⟨hn0, hn1⟩
        clear R1 R2 hn0 hn1
        generalize n = m at *
        have R3 := cap_H (W := w) (l := [Cel px (flow a b m) 32, Gr pg (capsS S cu), Gr po (capsS S0 cv), LdC p S.P (some q), LdM q S.L]) (p := pg) (c := capsS S cu) a b ha hb (by (repeat (first | (with_reducible exact List.mem_cons_self) | with_reducible apply List.mem_cons_of_mem)))
        rw [capsS_cap HS.out, (show capsS S cu a b = roomOf S a b cu from rfl), HV.out] at R3
        go_wp2_with (first | go_skip | ((with_reducible refine AnsH.call (by assumption) H ?_); clear H; intro _ H) | ((with_reducible show wpList _ _ _ (_ :: _) _ _); (with_reducible apply wpl_loadCH); (· first | exact cell_party | exact cell_i64); (· rfl); (· rfl); (· exact H); (· (repeat (first | (with_reducible exact List.mem_cons_self) | with_reducible apply List.mem_cons_of_mem))); (· (with_reducible first | exact flow_g0 .. | exact flow_g1 .. | exact flow_g2 ..)); (simp only [Act.put, List.setIfInBounds_toArray, List.set_cons_zero, List.set_cons_succ])))
        clear h8
        clear R3
        by_cases h1 : m < 1
        · have e1 : pushE S a b cu m = 1 := by unfold pushE; rw [if_pos h1]
          have e2 : pushS S a b cu m = S := by unfold pushS; rw [if_neg (by rw [e1]; decide)]
          have g1 : decide (m ≥ 1) = false := decide_eq_false (by omega)
          have g2 : decide (1 ≤ m) = false := decide_eq_false (by omega)
          refine (push_arg a b m (p := pg) (c := capsS S cu) (by (repeat (first | (with_reducible exact List.mem_cons_self) | with_reducible apply List.mem_cons_of_mem))) h1 _ H).mono ?_
          clear H h1
          rintro e w4 ⟨rfl, H⟩
          go_wp2_with (first | go_skip | ((with_reducible show wpList _ _ _ (_ :: _) _ _); (with_reducible apply wpl_loadCH); (· first | exact cell_party | exact cell_i64); (· rfl); (· rfl); (· exact H); (· (repeat (first | (with_reducible exact List.mem_cons_self) | with_reducible apply List.mem_cons_of_mem))); (· (with_reducible first | exact flow_g0 .. | exact flow_g1 .. | exact flow_g2 ..)); (simp only [Act.put, List.setIfInBounds_toArray, List.set_cons_zero, List.set_cons_succ])))
          refine (lpush_H (p := p) (q := q) (S := S) a b cu m ha hb hc hm0 HS.out (H.top2 (.there (.there (.there .here))) (.there (.there (.there .here))))).mono ?_
          clear H
          rintro e w5 ⟨rfl, H⟩
          rw [e1]
          rw [e2] at H
          clear e1 e2
          go_wp2_with (first | go_skip | ((with_reducible show wpList _ _ _ (_ :: _) _ _); (with_reducible apply wpl_loadCH); (· first | exact cell_party | exact cell_i64); (· rfl); (· rfl); (· exact H); (· (repeat (first | (with_reducible exact List.mem_cons_self) | with_reducible apply List.mem_cons_of_mem))); (· (with_reducible first | exact flow_g0 .. | exact flow_g1 .. | exact flow_g2 ..)); (simp only [Act.put, List.setIfInBounds_toArray, List.set_cons_zero, List.set_cons_succ])))
          refine (of_H (p := p) (q := q) (S := S) cu hc HS.out H (by (repeat (first | (with_reducible exact List.mem_cons_self) | with_reducible apply List.mem_cons_of_mem))) (by (repeat (first | (with_reducible exact List.mem_cons_self) | with_reducible apply List.mem_cons_of_mem)))).mono ?_
          clear H
          rintro e w6 ⟨pn, rfl, H⟩
          go_wp2_with (go_skip)
          refine (same_ans (W := w) (c := capsS S cu) (d := capsS S cu) (.pointer (some ⟨pg, 0, none⟩)) (.pointer (some ⟨pn, 0, none⟩)) (all_H (p := pg) (m := true) (by (repeat (first | (with_reducible exact List.mem_cons_self) | with_reducible apply List.mem_cons_of_mem))) (fun h => by cases h)) (all_H (p := pn) (m := true) (by (repeat (first | (with_reducible exact List.mem_cons_self) | with_reducible apply List.mem_cons_of_mem))) (fun h => by cases h)) _ H).mono ?_
          clear H
          rintro e w7 ⟨rfl, H⟩
          rw [show matSame (capsS S cu) (capsS S cu) = true from matSame_iff.2 (fun _ _ _ _ => rfl)]
          go_wp2_with (go_skip)
          refine ⟨⟨k + 1, S, by omega, by go_num, HS.out, HO.out, ?_⟩, ?measure4⟩
          · exact (H.tail.drop (.there (.there .here))).top2 (.there (.there .here)) (.there (.there .here))
          case measure4 => simp [intOf]; omega
        · by_cases h2 : v < m
          · have e1 : pushE S a b cu m = 11 := by unfold pushE; rw [if_neg h1, if_pos (by rw [HV.out]; exact h2)]
            have e2 : pushS S a b cu m = S := by unfold pushS; rw [if_neg (by rw [e1]; decide)]
            have g1 : decide (m ≥ 1) = true := decide_eq_true (by omega)
            have g2 : decide (1 ≤ m) = true := decide_eq_true (by omega)
            have g3 : decide (m ≤ v) = false := decide_eq_false (by omega)
            refine (push_route a b m ha hb (p := pg) (c := capsS S cu) (by (repeat (first | (with_reducible exact List.mem_cons_self) | with_reducible apply List.mem_cons_of_mem))) (by omega) (by rw [capsS_cap HS.out, (show capsS S cu a b = roomOf S a b cu from rfl), HV.out]; exact h2) _ H).mono ?_
            clear H h1 h2
            rintro e w4 ⟨rfl, H⟩
            go_wp2_with (first | go_skip | ((with_reducible show wpList _ _ _ (_ :: _) _ _); (with_reducible apply wpl_loadCH); (· first | exact cell_party | exact cell_i64); (· rfl); (· rfl); (· exact H); (· (repeat (first | (with_reducible exact List.mem_cons_self) | with_reducible apply List.mem_cons_of_mem))); (· (with_reducible first | exact flow_g0 .. | exact flow_g1 .. | exact flow_g2 ..)); (simp only [Act.put, List.setIfInBounds_toArray, List.set_cons_zero, List.set_cons_succ])))
            refine (lpush_H (p := p) (q := q) (S := S) a b cu m ha hb hc hm0 HS.out (H.top2 (.there (.there (.there .here))) (.there (.there (.there .here))))).mono ?_
            clear H
            rintro e w5 ⟨rfl, H⟩
            rw [e1]
            rw [e2] at H
            clear e1 e2
            go_wp2_with (first | go_skip | ((with_reducible show wpList _ _ _ (_ :: _) _ _); (with_reducible apply wpl_loadCH); (· first | exact cell_party | exact cell_i64); (· rfl); (· rfl); (· exact H); (· (repeat (first | (with_reducible exact List.mem_cons_self) | with_reducible apply List.mem_cons_of_mem))); (· (with_reducible first | exact flow_g0 .. | exact flow_g1 .. | exact flow_g2 ..)); (simp only [Act.put, List.setIfInBounds_toArray, List.set_cons_zero, List.set_cons_succ])))
            refine (of_H (p := p) (q := q) (S := S) cu hc HS.out H (by (repeat (first | (with_reducible exact List.mem_cons_self) | with_reducible apply List.mem_cons_of_mem))) (by (repeat (first | (with_reducible exact List.mem_cons_self) | with_reducible apply List.mem_cons_of_mem)))).mono ?_
            clear H
            rintro e w6 ⟨pn, rfl, H⟩
            go_wp2_with (go_skip)
            refine (same_ans (W := w) (c := capsS S cu) (d := capsS S cu) (.pointer (some ⟨pg, 0, none⟩)) (.pointer (some ⟨pn, 0, none⟩)) (all_H (p := pg) (m := true) (by (repeat (first | (with_reducible exact List.mem_cons_self) | with_reducible apply List.mem_cons_of_mem))) (fun h => by cases h)) (all_H (p := pn) (m := true) (by (repeat (first | (with_reducible exact List.mem_cons_self) | with_reducible apply List.mem_cons_of_mem))) (fun h => by cases h)) _ H).mono ?_
            clear H
            rintro e w7 ⟨rfl, H⟩
            rw [show matSame (capsS S cu) (capsS S cu) = true from matSame_iff.2 (fun _ _ _ _ => rfl)]
            go_wp2_with (go_skip)
            refine ⟨⟨k + 1, S, by omega, by go_num, HS.out, HO.out, ?_⟩, ?measure5⟩
            · exact (H.tail.drop (.there (.there .here))).top2 (.there (.there .here)) (.there (.there .here))
            case measure5 => simp [intOf]; omega
          · have e1 : pushE S a b cu m = 0 := by unfold pushE; rw [if_neg h1, if_neg (by rw [HV.out]; exact h2)]
            have g1 : decide (m ≥ 1) = true := decide_eq_true (by omega)
            have g2 : decide (1 ≤ m) = true := decide_eq_true (by omega)
            have g3 : decide (m ≤ v) = true := decide_eq_true (by omega)
            have hcv2 : capsS S cu a b = v := by rw [(show capsS S cu a b = roomOf S a b cu from rfl), HV.out]
            have hab := capsS_in HS.out (show capsS S cu a b ≠ 0 by omega)
            have hrm2 := HS.out.room b a cu
            have hu : upd2 (capsS S cu) a b (capsS S cu a b - m) b a = capsS S cu b a := by unfold upd2; rw [if_neg (fun e => hab.1 e.1.symm)]
            have hm2 : 0 ≤ capsS S cu b a ∧ capsS S cu b a ≤ 2199023255552 := hrm2
            refine (push_ok (p := pg) (c := capsS S cu) a b m hab.2.1 hab.2.2.1 hab.2.2.2.1 hab.2.2.2.2 (H.pull (.there .here)) (by omega) (by omega) (by omega) (by omega) (by omega)).mono ?_
            clear H h1 h2 hab hrm2 hu hm2 hcv2
            rintro e w4 ⟨rfl, H⟩
            rw [Gr_congr (fun x y _ _ => push_caps HS.out e1 x y)] at H
            have HS2 := Lib.hid (HS.out.push a b cu m)
            have HO2 := Lib.hid (fun x y => (push_caps_other (S := S) (a := a) (b := b) m HN.out x y).trans (HO.out x y))
            have HP := Lib.hid (push_P S a b cu m)
            go_wp2_with (first | go_skip | ((with_reducible show wpList _ _ _ (_ :: _) _ _); (with_reducible apply wpl_loadCH); (· first | exact cell_party | exact cell_i64); (· rfl); (· rfl); (· exact H); (· (repeat (first | (with_reducible exact List.mem_cons_self) | with_reducible apply List.mem_cons_of_mem))); (· (with_reducible first | exact flow_g0 .. | exact flow_g1 .. | exact flow_g2 ..)); (simp only [Act.put, List.setIfInBounds_toArray, List.set_cons_zero, List.set_cons_succ])))
            refine (lpush_H (p := p) (q := q) (S := S) a b cu m ha hb hc hm0 HS.out (H.top2 (.there (.there (.there .here))) (.there (.there (.there .here))))).mono ?_
            clear H
            rintro e w5 ⟨rfl, H⟩
            rw [e1]
            rw [← HP.out] at H
            clear e1
            generalize pushS S a b cu m = S2 at *
            go_wp2_with (first | go_skip | ((with_reducible show wpList _ _ _ (_ :: _) _ _); (with_reducible apply wpl_loadCH); (· first | exact cell_party | exact cell_i64); (· rfl); (· rfl); (· exact H); (· (repeat (first | (with_reducible exact List.mem_cons_self) | with_reducible apply List.mem_cons_of_mem))); (· (with_reducible first | exact flow_g0 .. | exact flow_g1 .. | exact flow_g2 ..)); (simp only [Act.put, List.setIfInBounds_toArray, List.set_cons_zero, List.set_cons_succ])))
            refine (of_H (p := p) (q := q) (S := S2) cu hc HS2.out H (by (repeat (first | (with_reducible exact List.mem_cons_self) | with_reducible apply List.mem_cons_of_mem))) (by (repeat (first | (with_reducible exact List.mem_cons_self) | with_reducible apply List.mem_cons_of_mem)))).mono ?_
            clear H
            rintro e w6 ⟨pn, rfl, H⟩
            go_wp2_with (go_skip)
            refine (same_ans (W := w) (c := capsS S2 cu) (d := capsS S2 cu) (.pointer (some ⟨pg, 0, none⟩)) (.pointer (some ⟨pn, 0, none⟩)) (all_H (p := pg) (m := true) (by (repeat (first | (with_reducible exact List.mem_cons_self) | with_reducible apply List.mem_cons_of_mem))) (fun h => by cases h)) (all_H (p := pn) (m := true) (by (repeat (first | (with_reducible exact List.mem_cons_self) | with_reducible apply List.mem_cons_of_mem))) (fun h => by cases h)) _ H).mono ?_
            clear H
            rintro e w7 ⟨rfl, H⟩
            rw [show matSame (capsS S2 cu) (capsS S2 cu) = true from matSame_iff.2 (fun _ _ _ _ => rfl)]
            go_wp2_with (go_skip)
            refine ⟨⟨k + 1, S2, by omega, by go_num, HS2.out, HO2.out, ?_⟩, ?measure6⟩
            · exact ((H.tail.drop (.there (.there (.there .here))))).top2 (.there (.there .here)) (.there (.there .here))
            case measure6 => simp [intOf]; omega
    · obtain rfl : k = fn := by omega
      go_wp2_with (go_skip)
      refine (of_H (p := p) (q := q) (S := S) cv hcv HS.out H (by (repeat (first | (with_reducible exact List.mem_cons_self) | with_reducible apply List.mem_cons_of_mem))) (by (repeat (first | (with_reducible exact List.mem_cons_self) | with_reducible apply List.mem_cons_of_mem)))).mono ?_
      clear H
      rintro e w6 ⟨pn, rfl, H⟩
      go_wp2_with (go_skip)
      refine (same_ans (W := w) (c := capsS S0 cv) (d := capsS S cv) (.pointer (some ⟨po, 0, none⟩)) (.pointer (some ⟨pn, 0, none⟩)) (all_H (p := po) (m := true) (by (repeat (first | (with_reducible exact List.mem_cons_self) | with_reducible apply List.mem_cons_of_mem))) (fun h => by cases h)) (all_H (p := pn) (m := true) (by (repeat (first | (with_reducible exact List.mem_cons_self) | with_reducible apply List.mem_cons_of_mem))) (fun h => by cases h)) _ H).mono ?_
      clear H
      rintro e w7 ⟨rfl, H⟩
      rw [show matSame (capsS S0 cv) (capsS S cv) = true from matSame_iff.2 (fun a b _ _ => (HO.out a b).symm)]
      go_wp2_with (go_skip)
      refine (lives05_H H).mono ?_
      clear H
      rintro e w7 ⟨rfl, H⟩
      go_wp2_with (go_skip)
      go_ret
      exact ⟨rfl, H.low⟩
end Go.Proofs.Ytgobnamhdkbbeaa
