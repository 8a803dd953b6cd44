/- FlowsMost: part 18 of its proof: LawFlowsMost2, LawPathsLeast2, LawPathsLeast3, Open07, LawFlowsMost3. -/
import Derived.Test.YtglehneaphigdaaFlowsMostPart17
/- FlowsMost: its walk, where there is a graph and somebody asks. -/
namespace Go.Proofs.Ytglehneaphigdaa
open Go.RowKit
set_option linter.unusedSimpArgs false
set_option linter.unusedVariables false
section
variable {W w : World} {l : List Thing}
set_option maxRecDepth 100000
set_option maxHeartbeats 4000000
theorem fmost_some (a : Option Addr) (n c0 f t : Nat) (k : Int) (F : List Flw) (c : Caps) (h : n ≤ 300) (hk1 : 1 ≤ k) (hne : f ≠ t) (hf1 : 1 ≤ f) (hf : f ≤ 16) (ht1 : 1 ≤ t) (ht : t ≤ 16) (hk : k ≤ 9223372036854775807) (hl : F.length = n) (hF : ∀ x ∈ F, FlwOk x) (R : ∀ l' w', (∀ x ∈ l, x ∈ l') → Heap W l' w' → Rd w' a (flwL F)) (hG : newG F = some c) (H : Heap W l w) : Calls Try.prog 4 #[.slice a n c0, .agg (flow (f : Int) (t : Int) k)] w fun e w' => e = .returned (.bool true) ∧ Heap W l w' := by
  have d1 : decide ((n : Int) > 300) = false := by simp; omega
  have d2 : decide ((300 : Int) < n) = false := by simp; omega
  have b1 : decide (k < 1) = false := by simp; omega
  have e1 : ((f : Int) == (t : Int)) = false := by simp; omega
  have e2 : decide ((f : Int) < 1) = false := by simp; omega
  have e3 : decide ((f : Int) > 16) = false := by simp; omega
  have e4 : decide (16 < (f : Int)) = false := by simp; omega
  have e5 : decide ((t : Int) < 1) = false := by simp; omega
  have e6 : decide ((t : Int) > 16) = false := by simp; omega
  have e7 : decide (16 < (t : Int)) = false := by simp; omega
  have L := fun (l : List Thing) (V : World) (H : Heap W l V) => lives07_H (W := W) (l := l) (w := V) H
  have N := fun (x : Thing) (V : World) (H : Heap W (x :: l) V) => new_H (W := W) (l := x :: l) (w := V) a n c0 F hl (by omega) hF (fun w' h => R _ w' (fun y hy => List.mem_cons_of_mem _ hy) h) H
  rw [hG] at N
  have hpc := newG_play hG
  have S := fun (l : List Thing) (p : Nat) (m : Gr p c ∈ l) (V : World) (H : Heap W l V) => routeA_H (W := W) (l := l) (w := V) (p := p) c f t k (by omega) (by omega) hk hpc m H
  have HPC := Lib.hid hpc
  have mf : mayP f = true := by simp [mayP]; omega
  have mt : mayP t = true := by simp [mayP]; omega
  clear hl hF R hG hpc
  go_enter Try.func4, Try.ntmps4
  go_wp2_with (first | go_skip | ((with_reducible show wpList _ _ _ (_ :: _) _ _); (with_reducible apply wpl_boxRH); (· rfl); (· rfl); (· exact H); (clear H; intro pb _ H); (simp only [Act.put, List.setIfInBounds_toArray, List.set_cons_zero, List.set_cons_succ])))
  refine (N _ _ H).mono ?_
  clear N H
  rintro _ _ ⟨p, rfl, H⟩
  go_wp2_with (first | go_skip | ((with_reducible show wpList _ _ _ (_ :: _) _ _); (with_reducible apply wpl_loadCH); (· first | exact cell_party | exact cell_i64); (· rfl); (· rfl); (· exact H); (· (repeat (first | (with_reducible exact List.mem_cons_self) | with_reducible apply List.mem_cons_of_mem))); (· (with_reducible first | exact flow_g0 .. | exact flow_g1 .. | exact flow_g2 ..)); (simp only [Act.put, List.setIfInBounds_toArray, List.set_cons_zero, List.set_cons_succ])))
  refine (S _ p (by (repeat (first | (with_reducible exact List.mem_cons_self) | with_reducible apply List.mem_cons_of_mem))) _ H).mono ?_
  clear H S
  rintro e w2 ⟨va, P, got, rfl, hr, H⟩
  have hle := hr.len HPC.out
  obtain ⟨hfit, hg0, hnet⟩ := hr.done HPC.out
  have HL0 := hr.left HPC.out
  have hgm : got ≤ k := by have := HL0.2.2; rw [Int.max_eq_left (by omega)] at this; exact this
  obtain ⟨ln, hln⟩ : ∃ ln, P.length = ln := ⟨_, rfl⟩
  rw [hln] at H hle
  obtain ⟨aa, ca, rfl⟩ := OwnT.form0 (H.ok _ List.mem_cons_self)
  have HL := Lib.hid hln
  have HP := Lib.hid (And.intro hfit (And.intro hnet HL0))
  have HR := Lib.hid hr
  clear hr hfit hnet HL0 hln
  go_wp2_with (first | go_skip | ((with_reducible show wpList _ _ _ (_ :: _) _ _); (with_reducible apply wpl_loadCH); (· first | exact cell_party | exact cell_i64); (· rfl); (· rfl); (· exact H); (· (repeat (first | (with_reducible exact List.mem_cons_self) | with_reducible apply List.mem_cons_of_mem))); (· (with_reducible first | exact flow_g0 .. | exact flow_g1 .. | exact flow_g2 ..)); (simp only [Act.put, List.setIfInBounds_toArray, List.set_cons_zero, List.set_cons_succ])))
  refine (copy_H (p := p) (c := c) H (by (repeat (first | (with_reducible exact List.mem_cons_self) | with_reducible apply List.mem_cons_of_mem)))).mono ?_
  clear H
  rintro e w3 ⟨gc, rfl, H⟩
  go_wp2_with (first | go_skip | ((with_reducible show wpList _ _ _ (_ :: _) _ _); (with_reducible apply wpl_allocRH row_17l); (· rfl); (· exact H); (clear H; intro pg _ H); (simp only [Act.put, List.setIfInBounds_toArray, List.set_cons_zero, List.set_cons_succ])))
  go_loopw [11] (FmL W (OwnT 35 3 (.slice aa ln ca) ln (flwL P) :: Gr p c :: Cel pb (flow (f : Int) (t : Int) k) 49 :: l) c P pg gc) (fun i _ => ln - (intOf i).toNat)
  case atStart => exact ⟨⟨0, rfl, by omega, H⟩⟩
  case round =>
    obtain ⟨i, rfl, hi, H'⟩ := hrel.out
    clear H hrel
    have H := H'
    clear H'
    rw [HL.out] at hi
    by_cases hlt : i < ln
    · have hx : P[i]? = some (P[i]'(by rw [HL.out]; exact hlt)) := List.getElem?_eq_getElem _
      generalize P[i]'(by rw [HL.out]; exact hlt) = x at hx
      obtain ⟨xf, xt, xn⟩ := x
      have hat := HP.out.1.at hx
      have hcs := flwL_cells hx
      simp only at hat hcs
      obtain ⟨ga, oa, rfl, _⟩ := (H.ownRd (a := aa) (List.mem_cons_of_mem _ (List.mem_cons_of_mem _ List.mem_cons_self))).lt (by rw [flwL_len, HL.out]; omega)
      have hb1 := netP_bnd (c := c) xf HPC.out (HP.out.1.take i)
      have hb2 := netP_bnd (c := c) xt HPC.out (HP.out.1.take i)
      have hpl := pushL_play (P.take i) HPC.out
      have hcap := hpl.sum xf xt
      have hge := hpl.good.ge xt xf
      have hne2 := hpl.ne hat.1.1 hat.1.2.1
      have hok := pushR_ok hat.1.1 hat.1.2.1
      have hlen : ((P.take i).length : Int) ≤ 86240 := by have := List.length_take_le i P; omega
      have hx16 : xf < 17 := by omega
      have hy16 : xt < 17 := by omega
      have f3 : decide ((xf : Int) > 16) = false := by simp; omega
      have f4 : decide (16 < (xf : Int)) = false := by simp; omega
      have f6 : decide ((xt : Int) > 16) = false := by simp; omega
      have f7 : decide (16 < (xt : Int)) = false := by simp; omega
      obtain ⟨r, hrr⟩ : ∃ r : Nat → Int, (fun q => netP q (P.take i)) = r := ⟨_, rfl⟩
      have er : ∀ q, netP q (P.take i) = r q := fun q => by rw [← hrr]
      rw [hrr] at H
      rw [er] at hb1 hb2
      have w1 : wrap64 (r xf - xn) = r xf - xn := IntWalk.wrap64_in _ ⟨by omega, by omega⟩
      have w2' : updN r xf (r xf - xn) xt = r xt := by unfold updN; rw [if_neg (fun e => hne2 e.symm)]
      have w3' : wrap64 (r xt + xn) = r xt + xn := IntWalk.wrap64_in _ ⟨by omega, by omega⟩
      have hrow : updN (updN r xf (r xf - xn)) xt (r xt + xn) = fun q => netP q (P.take (i + 1)) := by
        funext q
        rw [hat.2.2 q, er]
        unfold updN
        by_cases q1 : q = xt
        · subst q1
          rw [if_pos rfl, if_neg hne2, if_pos rfl]; omega
        · rw [if_neg q1]
          by_cases q2 : q = xf
          · subst q2
            rw [if_pos rfl, if_pos rfl, if_neg (fun e => q1 e.symm)]; omega
          · rw [if_neg q2, if_neg (fun e => q2 e.symm), if_neg (fun e => q1 e.symm)]; omega
      have HAT := Lib.hid (And.intro (And.intro hat (And.intro hok hrow)) hcs)
      clear hat hcs hx hb1 hb2 hcap hge hlen hok hrow hrr er hpl
      go_wp2_with (go_skip)
      refine wp_region_K [16] [0, 1, 2, 3, 4, 5, 6, 7, 8, 9, 10, 11, 12, 13, 14, 15, 16, 17, 18, 19, 20, 21, 22, 23, 24, 25, 26, 27, 28, 29, 30, 31, 32, 33] [OwnT 35 3 (.slice (some ⟨ga, oa, none⟩) ln ca) ln (flwL P)] H (fun t ht => by rw [List.mem_singleton.1 ht]; (repeat (first | (with_reducible exact List.mem_cons_self) | with_reducible apply List.mem_cons_of_mem))) (by kernel_rfl) (by kernel_rfl) ?_
      iterate 16 (apply wpK_step; (· rfl); (· rfl); (· rfl); (· exact Nat.le_of_ble_eq_true rfl); (· intro l0 hs0 w0 H0; (first | go_big_quiet_skip | ((with_reducible apply wpQ_loadRdC); (· first | exact cell_party | exact cell_i64); (· rfl); (· rfl); (· exact fun w' H' => H'.ownRd (hs0 _ (by (repeat (first | (with_reducible exact List.mem_cons_self) | with_reducible apply List.mem_cons_of_mem))))); (· first | exact Nat.add_assoc _ _ _ | rfl); (· first | exact HAT.out.2.1 | exact HAT.out.2.2.1 | exact HAT.out.2.2.2); (simp only [Act.put, List.setIfInBounds_toArray, List.set_cons_zero, List.set_cons_succ])) | go_big_quiet_step (fail)); (refine wpQuiet_nil ?_); (simp only [Array.getD_eq_getD_getElem?, List.getElem?_toArray, List.getElem?_cons_succ, List.getElem?_cons_zero, Option.getD_some]; rfl)); (simp only [Act.put, List.setIfInBounds_toArray, List.set_cons_zero, List.set_cons_succ]))
      refine wpK_call (f := 19) (argl := [.pointer (some ⟨gc, 0, none⟩), .int .u8 (xf : Int), .int .u8 (xt : Int), .int .i64 xn]) rfl rfl rfl Try.call19 rfl ?_
      intro w0 H0
      refine (gpush_H (p := gc) xf xt xn (by omega) (by omega) (pushL_play _ HPC.out) (H0.pull (.there .here))).mono ?_
      clear H0
      rw [HAT.out.1.2.1]
      rintro e w4 ⟨rfl, H1⟩
      refine ⟨_, _, rfl, H1, _, Keeps.refl _, fun t ht => by rw [List.mem_singleton.1 ht]; (repeat (first | (with_reducible exact List.mem_cons_self) | with_reducible apply List.mem_cons_of_mem)), ?_⟩
      clear H1
      (simp only [Act.put, List.setIfInBounds_toArray, List.set_cons_zero, List.set_cons_succ])
      iterate 17 (apply wpK_step; (· rfl); (· rfl); (· rfl); (· exact Nat.le_of_ble_eq_true rfl); (· intro l0 hs0 w0 H0; (first | go_big_quiet_skip | ((with_reducible apply wpQ_loadRdC); (· first | exact cell_party | exact cell_i64); (· rfl); (· rfl); (· exact fun w' H' => H'.ownRd (hs0 _ (by (repeat (first | (with_reducible exact List.mem_cons_self) | with_reducible apply List.mem_cons_of_mem))))); (· first | exact Nat.add_assoc _ _ _ | rfl); (· first | exact HAT.out.2.1 | exact HAT.out.2.2.1 | exact HAT.out.2.2.2); (simp only [Act.put, List.setIfInBounds_toArray, List.set_cons_zero, List.set_cons_succ])) | go_big_quiet_step (fail)); (refine wpQuiet_nil ?_); (simp only [Array.getD_eq_getD_getElem?, List.getElem?_toArray, List.getElem?_cons_succ, List.getElem?_cons_zero, Option.getD_some]; rfl)); (simp only [Act.put, List.setIfInBounds_toArray, List.set_cons_zero, List.set_cons_succ]))
      (refine wpK_nil ?_; clear H; intro _ H)
      rw [← HAT.out.1.1.2.1] at H
      go_wp2_with (go_skip)
      refine wp_region_H_tail 19 H (by kernel_rfl) (by kernel_rfl) ?_
      simp only [List.take_succ_cons, List.take_zero, List.drop_succ_cons, List.drop_zero]
      repeat (first | go_big_quiet_skip | (first | ((with_reducible apply wpQ_loadRdC); (· first | exact cell_party | exact cell_i64); (· rfl); (· rfl); (· exact fun w' H' => H'.ownRd (by (repeat (first | (with_reducible exact List.mem_cons_self) | with_reducible apply List.mem_cons_of_mem)))); (· first | exact Nat.add_assoc _ _ _ | rfl); (· first | exact HAT.out.2.1 | exact HAT.out.2.2.1 | exact HAT.out.2.2.2); (simp only [Act.put, List.setIfInBounds_toArray, List.set_cons_zero, List.set_cons_succ])) | ((with_reducible apply wpQ_loadCH); (· exact cell_i64); (· rfl); (· rfl); (· (repeat (first | (with_reducible exact List.mem_cons_self) | with_reducible apply List.mem_cons_of_mem))); (· exact row17_get _ hx16); (simp only [Act.put, List.setIfInBounds_toArray, List.set_cons_zero, List.set_cons_succ]))) | go_big_quiet_step (fail))
      refine wpQuiet_nil ?_
      clear H
      intro _ H
      go_wp2_with (first | go_skip | ((with_reducible show wpList _ _ _ (_ :: _) _ _); (with_reducible apply wpl_storeIH); (· exact cell_i64); (· rfl); (· rfl); (· rfl); (· exact H); (· (repeat (first | (with_reducible exact List.mem_cons_self) | with_reducible apply List.mem_cons_of_mem))); (· (rw [row17_sz]; exact hx16)); (· exact row17_set _ hx16 _); (· (repeat (first | (with_reducible exact Repl.here) | with_reducible apply Repl.there))); (clear H; intro _ H); (simp only [Act.put, List.setIfInBounds_toArray, List.set_cons_zero, List.set_cons_succ])))
      rw [w1] at H
      refine wp_region_H_tail 19 H (by kernel_rfl) (by kernel_rfl) ?_
      simp only [List.take_succ_cons, List.take_zero, List.drop_succ_cons, List.drop_zero]
      repeat (first | go_big_quiet_skip | (first | ((with_reducible apply wpQ_loadRdC); (· first | exact cell_party | exact cell_i64); (· rfl); (· rfl); (· exact fun w' H' => H'.ownRd (by (repeat (first | (with_reducible exact List.mem_cons_self) | with_reducible apply List.mem_cons_of_mem)))); (· first | exact Nat.add_assoc _ _ _ | rfl); (· first | exact HAT.out.2.1 | exact HAT.out.2.2.1 | exact HAT.out.2.2.2); (simp only [Act.put, List.setIfInBounds_toArray, List.set_cons_zero, List.set_cons_succ])) | ((with_reducible apply wpQ_loadCH); (· exact cell_i64); (· rfl); (· rfl); (· (repeat (first | (with_reducible exact List.mem_cons_self) | with_reducible apply List.mem_cons_of_mem))); (· exact row17_get _ hy16); (simp only [Act.put, List.setIfInBounds_toArray, List.set_cons_zero, List.set_cons_succ]))) | go_big_quiet_step (fail))
      refine wpQuiet_nil ?_
      clear H
      intro _ H
      go_wp2_with (first | go_skip | ((with_reducible show wpList _ _ _ (_ :: _) _ _); (with_reducible apply wpl_storeIH); (· exact cell_i64); (· rfl); (· rfl); (· rfl); (· exact H); (· (repeat (first | (with_reducible exact List.mem_cons_self) | with_reducible apply List.mem_cons_of_mem))); (· (rw [row17_sz]; exact hy16)); (· exact row17_set _ hy16 _); (· (repeat (first | (with_reducible exact Repl.here) | with_reducible apply Repl.there))); (clear H; intro _ H); (simp only [Act.put, List.setIfInBounds_toArray, List.set_cons_zero, List.set_cons_succ])))
      rw [w3', HAT.out.1.2.2] at H
      refine ⟨?_, ?_⟩
      · exact ⟨⟨i + 1, by go_num, by rw [HL.out]; omega, H.perm (.swap _ _ _)⟩⟩
      · simp [intOf]; omega
    · obtain rfl : i = ln := by omega
      rw [← HL.out, List.take_length, HL.out] at H
      obtain ⟨r, hrr⟩ : ∃ r : Nat → Int, (fun q => netP q P) = r := ⟨_, rfl⟩
      have er : ∀ q, r q = (if t = q then got else 0) - (if f = q then got else 0) := fun q => by rw [← hrr]; exact HP.out.2.1 q
      rw [hrr] at H
      clear hrr
      go_wp2_with (go_skip)
      go_loopw [12] (FmP W (Cel pg (row17 r) 52 :: Gr gc (pushL c P) :: OwnT 35 3 (.slice aa i ca) i (flwL P) :: Gr p c :: Cel pb (flow (f : Int) (t : Int) k) 49 :: l)) (fun i _ => 17 - (intOf i).toNat)
      case atStart => exact ⟨⟨0, rfl, by omega, H⟩⟩
      case round =>
        obtain ⟨x, rfl, hx17, H'⟩ := hrel.out
        clear H hrel
        have H := H'
        clear H'
        by_cases hxl : x < 17
        · by_cases q1 : x = f
          · subst q1
            have g1 : ((x : Int) == (x : Int)) = true := by simp
            have g2 : r x = -got := by rw [er, if_neg (fun e => hne e.symm), if_pos rfl]; omega
            have g3 : wrap64 (-got) = -got := IntWalk.wrap64_in _ ⟨by omega, by omega⟩
            have g4 : (r x != -got) = false := by rw [g2]; simp
            go_wp2_with (first | go_skip | ((with_reducible show wpList _ _ _ (_ :: _) _ _); (with_reducible apply wpl_loadCH); (· exact cell_i64); (· rfl); (· rfl); (· exact H); (· (repeat (first | (with_reducible exact List.mem_cons_self) | with_reducible apply List.mem_cons_of_mem))); (· exact row17_get _ hxl); (simp only [Act.put, List.setIfInBounds_toArray, List.set_cons_zero, List.set_cons_succ])) | ((with_reducible show wpList _ _ _ (_ :: _) _ _); (with_reducible apply wpl_loadCH); (· first | exact cell_party | exact cell_i64); (· rfl); (· rfl); (· exact H); (· (repeat (first | (with_reducible exact List.mem_cons_self) | with_reducible apply List.mem_cons_of_mem))); (· (with_reducible first | exact flow_g0 .. | exact flow_g1 .. | exact flow_g2 ..)); (simp only [Act.put, List.setIfInBounds_toArray, List.set_cons_zero, List.set_cons_succ])))
            refine ⟨?_, ?_⟩
            · exact ⟨⟨x + 1, by go_num, by omega, H⟩⟩
            · simp [intOf]; omega
          · have g0 : ((x : Int) == (f : Int)) = false := by simp; omega
            by_cases q2 : x = t
            · subst q2
              have g1 : ((x : Int) == (x : Int)) = true := by simp
              have g2 : r x = got := by rw [er, if_pos rfl, if_neg hne]; omega
              have g4 : (r x != got) = false := by rw [g2]; simp
              go_wp2_with (first | go_skip | ((with_reducible show wpList _ _ _ (_ :: _) _ _); (with_reducible apply wpl_loadCH); (· exact cell_i64); (· rfl); (· rfl); (· exact H); (· (repeat (first | (with_reducible exact List.mem_cons_self) | with_reducible apply List.mem_cons_of_mem))); (· exact row17_get _ hxl); (simp only [Act.put, List.setIfInBounds_toArray, List.set_cons_zero, List.set_cons_succ])) | ((with_reducible show wpList _ _ _ (_ :: _) _ _); (with_reducible apply wpl_loadCH); (· first | exact cell_party | exact cell_i64); (· rfl); (· rfl); (· exact H); (· (repeat (first | (with_reducible exact List.mem_cons_self) | with_reducible apply List.mem_cons_of_mem))); (· (with_reducible first | exact flow_g0 .. | exact flow_g1 .. | exact flow_g2 ..)); (simp only [Act.put, List.setIfInBounds_toArray, List.set_cons_zero, List.set_cons_succ])))
              refine ⟨?_, ?_⟩
              · exact ⟨⟨x + 1, by go_num, by omega, H⟩⟩
              · simp [intOf]; omega
            · have g1 : ((x : Int) == (t : Int)) = false := by simp; omega
              have g2 : r x = 0 := by rw [er, if_neg (fun e => q2 e.symm), if_neg (fun e => q1 e.symm)]; rfl
              have g4 : (r x != 0) = false := by rw [g2]; simp
              go_wp2_with (first | go_skip | ((with_reducible show wpList _ _ _ (_ :: _) _ _); (with_reducible apply wpl_loadCH); (· exact cell_i64); (· rfl); (· rfl); (· exact H); (· (repeat (first | (with_reducible exact List.mem_cons_self) | with_reducible apply List.mem_cons_of_mem))); (· exact row17_get _ hxl); (simp only [Act.put, List.setIfInBounds_toArray, List.set_cons_zero, List.set_cons_succ])) | ((with_reducible show wpList _ _ _ (_ :: _) _ _); (with_reducible apply wpl_loadCH); (· first | exact cell_party | exact cell_i64); (· rfl); (· rfl); (· exact H); (· (repeat (first | (with_reducible exact List.mem_cons_self) | with_reducible apply List.mem_cons_of_mem))); (· (with_reducible first | exact flow_g0 .. | exact flow_g1 .. | exact flow_g2 ..)); (simp only [Act.put, List.setIfInBounds_toArray, List.set_cons_zero, List.set_cons_succ])))
              refine ⟨?_, ?_⟩
              · exact ⟨⟨x + 1, by go_num, by omega, H⟩⟩
              · simp [intOf]; omega
        · obtain rfl : x = 17 := by omega
          clear er hi hlt
          go_wp2_with (first | go_skip | ((with_reducible show wpList _ _ _ (_ :: _) _ _); (with_reducible apply wpl_loadCH); (· first | exact cell_party | exact cell_i64); (· rfl); (· rfl); (· exact H); (· (repeat (first | (with_reducible exact List.mem_cons_self) | with_reducible apply List.mem_cons_of_mem))); (· (with_reducible first | exact flow_g0 .. | exact flow_g1 .. | exact flow_g2 ..)); (simp only [Act.put, List.setIfInBounds_toArray, List.set_cons_zero, List.set_cons_succ])))
          refine (most_H (p := p) c f t (by omega) (by omega) HPC.out (by (repeat (first | (with_reducible exact List.mem_cons_self) | with_reducible apply List.mem_cons_of_mem))) H).mono ?_
          clear H
          rintro e w5 ⟨Q, most, rfl, hm, H⟩
          have hmin := RouteOut.max HPC.out mf mt hne (by omega) HR.out hm (by omega)
          have g1 : decide (got < 0) = false := by simp; omega
          have g2 : decide (got > k) = false := by simp; omega
          have g3 : decide (k < got) = false := by simp; omega
          clear hm
          by_cases hgk : got = k
          · have hkm : k ≤ most := by omega
            subst hgk
            have g5 : (got == got) = true := by simp
            have g6 : (got != got) = false := by simp
            clear hmin
            go_wp2_with (first | go_skip | ((with_reducible show wpList _ _ _ (_ :: _) _ _); (with_reducible apply wpl_loadCH); (· first | exact cell_party | exact cell_i64); (· rfl); (· rfl); (· exact H); (· (repeat (first | (with_reducible exact List.mem_cons_self) | with_reducible apply List.mem_cons_of_mem))); (· (with_reducible first | exact flow_g0 .. | exact flow_g1 .. | exact flow_g2 ..)); (simp only [Act.put, List.setIfInBounds_toArray, List.set_cons_zero, List.set_cons_succ])) | ((with_reducible refine (L _ _ H).mono ?_); clear H; rintro _ _ ⟨rfl, H⟩))
            go_ret
            exact ⟨rfl, H.tail.tail.tail.tail.tail⟩
          · have g5 : (got == k) = false := by simpa using hgk
            have hkm : ¬ k ≤ most := by omega
            have g6 : (got != most) = false := by simp; omega
            clear hmin
            go_wp2_with (first | go_skip | ((with_reducible show wpList _ _ _ (_ :: _) _ _); (with_reducible apply wpl_loadCH); (· first | exact cell_party | exact cell_i64); (· rfl); (· rfl); (· exact H); (· (repeat (first | (with_reducible exact List.mem_cons_self) | with_reducible apply List.mem_cons_of_mem))); (· (with_reducible first | exact flow_g0 .. | exact flow_g1 .. | exact flow_g2 ..)); (simp only [Act.put, List.setIfInBounds_toArray, List.set_cons_zero, List.set_cons_succ])))
            refine (reached_H (p := gc) (pushL c P) f hf1 hf (pushL_play _ HPC.out) (by (repeat (first | (with_reducible exact List.mem_cons_self) | with_reducible apply List.mem_cons_of_mem))) H).mono ?_
            clear H
            rintro e w6 ⟨M, rfl, hM, H⟩
            have hpl := pushL_play P HPC.out
            have hfar := hM.far hpl.good mf mt hne (HP.out.2.2.2.1 (by omega))
            have hcut := HP.out.2.2.1 M.getLsbD hM.has hfar
            rw [(hM.fin hpl.good hf1).cut hpl.good, Int.add_zero] at hcut
            have CC : AnsH W (Cel pg (row17 r) 52 :: Gr gc (pushL c P) :: OwnT 35 3 (.slice aa i ca) i (flwL P) :: Gr p c :: Cel pb (flow (f : Int) (t : Int) k) 49 :: l) 32 #[.pointer (some ⟨p, 0, none⟩), .int .u32 (I32 M), .int .i64 got] (.bool true) := by
              have := cut_H (W := W) (l := Cel pg (row17 r) 52 :: Gr gc (pushL c P) :: OwnT 35 3 (.slice aa i ca) i (flwL P) :: Gr p c :: Cel pb (flow (f : Int) (t : Int) k) 49 :: l) (p := p) c M got HPC.out (by (repeat (first | (with_reducible exact List.mem_cons_self) | with_reducible apply List.mem_cons_of_mem)))
              rwa [decide_eq_true (by omega)] at this
            have e8 := bit_0 M t
            rw [hfar] at e8
            clear hM hpl hfar hcut
            go_wp2_with (first | go_skip | ((with_reducible show wpList _ _ _ (_ :: _) _ _); (with_reducible apply wpl_loadCH); (· first | exact cell_party | exact cell_i64); (· rfl); (· rfl); (· exact H); (· (repeat (first | (with_reducible exact List.mem_cons_self) | with_reducible apply List.mem_cons_of_mem))); (· (with_reducible first | exact flow_g0 .. | exact flow_g1 .. | exact flow_g2 ..)); (simp only [Act.put, List.setIfInBounds_toArray, List.set_cons_zero, List.set_cons_succ])) | ((with_reducible refine AnsH.call (by assumption) H ?_); clear H; intro _ H) | ((with_reducible refine (L _ _ H).mono ?_); clear H; rintro _ _ ⟨rfl, H⟩))
            go_ret
            exact ⟨rfl, H.tail.tail.tail.tail.tail⟩
end
end Go.Proofs.Ytglehneaphigdaa

/- PathsLeast: its walk over a graph there is, between two parties. -/
namespace Go.Proofs.Ytglehneaphigdaa
open Go.RowKit
set_option linter.unusedSimpArgs false
set_option linter.unusedVariables false
/-- The table at its end. -/
def leftT (d : Nat → Nat) : Nat → Nat := fun p => if d p < 17 then d p else 99
theorem leftT_in {d : Nat → Nat} {p : Nat} (h : d p < 17) : leftT d p = d p := if_pos h
theorem leftT_out {d : Nat → Nat} {p : Nat} (h : ¬ d p < 17) : leftT d p = 99 := if_neg h
structure LeastT (W : World) (l : List Thing) (d : Nat → Nat) (pt : Nat) (i : Value) (wr : World) : Prop where
  out : ∃ n T, i = .int .i64 ((n : Nat) : Int) ∧ n ≤ 16 ∧ InvN d n T ∧ Heap W (Cel pt (dist17 T) 74 :: l) wr
structure LeastA (W : World) (l : List Thing) (d : Nat → Nat) (n pt : Nat) (i : Value) (wr : World) : Prop where
  out : ∃ a T, i = .int .u8 ((a : Nat) : Int) ∧ 1 ≤ a ∧ a ≤ 17 ∧ InvA d n a T ∧ Heap W (Cel pt (dist17 T) 74 :: l) wr
structure LeastB (W : World) (l : List Thing) (c : Caps) (d : Nat → Nat) (n a pt : Nat) (i : Value) (wr : World) : Prop where
  out : ∃ b T, i = .int .u8 ((b : Nat) : Int) ∧ 1 ≤ b ∧ b ≤ 17 ∧ InvB (edge c) d n a b T ∧ Heap W (Cel pt (dist17 T) 74 :: l) wr
structure LeastI (W : World) (l : List Thing) (m : Nat) (i : Value) (wr : World) : Prop where
  out : ∃ k, i = .int .i64 (((k : Nat) : Int) + 1) ∧ k ≤ m ∧ Heap W l wr
structure LeastP (W : World) (l : List Thing) (q : Nat) (i : Value) (wr : World) : Prop where
  out : ∃ k, i = .int .u8 ((k : Nat) : Int) ∧ 1 ≤ k ∧ k ≤ q ∧ Heap W l wr
theorem Way.at {A : Nat → Nat → Bool} {d : Nat → Nat} {f t : Nat} {L : List Nat} (h : Way A d f t L) : ∀ i x, L[i]? = some x → d x + i = d f
  | 0, x, hx => by rw [h.head] at hx; cases hx; rfl
  | i + 1, x, hx => by
    have hi : i + 1 < L.length := by
      apply Classical.byContradiction
      intro hn
      rw [List.getElem?_eq_none (by omega)] at hx
      cases hx
    have hy : L[i]? = some L[i] := List.getElem?_eq_getElem (by omega)
    have h1 := h.at i _ hy
    have h2 := (h.steps i _ x hy hx).good.1
    omega
theorem Sound.le99 {d T : Nat → Nat} (h : Sound d T) (p : Nat) : T p ≤ 99 := by rcases h p with h | h <;> omega
section
variable {W w : World} {l : List Thing}
set_option maxRecDepth 100000
set_option maxHeartbeats 4000000
theorem least_yes (a : Option Addr) (n c0 f t : Nat) (F : List Flw) (c : Caps) (h : n ≤ 300) (hl : F.length = n) (hF : ∀ x ∈ F, FlwOk x) (hf1 : 1 ≤ f) (hf : f ≤ 16) (ht1 : 1 ≤ t) (ht : t ≤ 16) (hne : f ≠ t) (R : ∀ w', Heap W l w' → Rd w' a (flwL F)) (hG : newG F = some c) (H : Heap W l w) :
    Calls Try.prog 8 #[.slice a n c0, .int .u8 (f : Int), .int .u8 (t : Int)] w fun e w' => e = .returned (.bool true) ∧ Heap W l w' := by
  have L := fun (V : World) (l : List Thing) (H : Heap W l V) => lives06_H (W := W) (l := l) (w := V) H
  have N := new_H (W := W) (l := l) (w := w) a n c0 F hl (by omega) hF R H
  rw [hG] at N
  have S := fun (l : List Thing) (p : Nat) (h : Gr p c ∈ l) (V : World) (H : Heap W l V) => short_H (W := W) (l := l) (w := V) (gv := .pointer (some ⟨p, 0, none⟩)) f t (by omega) (by omega) (CapsOf.gr h) H
  have hle : ∀ p q, edge c p q = true → p ≤ 16 := fun p q h => (edge_le h).1.2
  have h0 : ∀ q, edge c 0 q = false := fun q => edge_no (by rw [capOf_zero]; omega)
  have h00 : ∀ q, edge c q 0 = false := fun q => edge_no (by unfold capOf; rw [if_neg]; · omega
                                                             · rintro ⟨_, h⟩; have := mayP_true h; omega)
  obtain ⟨d, hd⟩ := exists_dist (A := edge c) ht1 ht hle h0
  clear hl hF R hG H
  have e1 : ((f : Int) == (t : Int)) = false := by simp; omega
  have f17 : f < 17 := by omega
  have t17 : t < 17 := by omega
  have HD := Lib.hid (And.intro hd (And.intro hle (And.intro h0 h00)))
  have HNE := Lib.hid hne
  clear hd hle h0 h00 hne
  go_enter Try.func8, Try.ntmps8
  go_wp2_with (first | go_skip | ((with_reducible refine N.mono ?_); clear N; rintro _ _ ⟨p, rfl, H⟩) | ((with_reducible show wpList _ _ _ (_ :: _) _ _); (with_reducible apply wpl_allocRH row_17i); (· rfl); (· exact H); (clear H; intro pt _ H); (simp only [Act.put, List.setIfInBounds_toArray, List.set_cons_zero, List.set_cons_succ])))
  have H0 := H
  clear H
  go_loopw [10] (fun i wr => ∃ k : Nat, k ≤ 17 ∧ i = .int .i64 k ∧ Heap W (Cel pt (row17 fun i => if i < k then 99 else 0) 74 :: Gr p c :: l) wr) (fun i _ => 17 - (intOf i).toNat)
  case atStart => exact ⟨0, by omega, rfl, by simpa using H0⟩
  case round =>
    obtain ⟨k, hk, rfl, H'⟩ := hrel
    clear H0
    have H := H'
    clear H'
    by_cases hlt : k < 17
    · go_wp2_with (first | go_skip | ((with_reducible show wpList _ _ _ (_ :: _) _ _); (with_reducible apply wpl_storeIH); (· exact cell_int); (· rfl); (· rfl); (· rfl); (· exact H); (· (repeat (first | (with_reducible exact List.mem_cons_self) | with_reducible apply List.mem_cons_of_mem))); (· (rw [row17_sz]; omega)); (· exact row17_set _ hlt _); (· (repeat (first | (with_reducible exact Repl.here) | with_reducible apply Repl.there))); (clear H; intro _ H); (simp only [Act.put, List.setIfInBounds_toArray, List.set_cons_zero, List.set_cons_succ])))
      go_roundw
      case rel =>
        refine ⟨k + 1, by omega, by go_num, ?_⟩
        have e : row17 (updN (fun i => if i < k then (99 : Int) else 0) k 99) = row17 fun i => if i < k + 1 then 99 else 0 := by
          apply row17_ext
          intro i hi
          unfold updN
          by_cases e1 : i = k
          · subst e1; simp
          · by_cases e2 : i < k
            · have e3 : i < k + 1 := by omega
              simp [e1, e2, e3]
            · have e3 : ¬ i < k + 1 := by omega
              simp [e1, e2, e3]
        rw [← e]
        exact H
      case measure => simp [intOf]; omega
    · obtain rfl : k = 17 := by omega
      rw [show row17 (fun i => if i < 17 then (99 : Int) else 0) = dist17 (fun _ => 99) from row17_ext fun i hi => by rw [if_pos hi]; rfl] at H
      unfold dist17 at H
      go_wp2_with (first
        | go_skip
        | ((with_reducible show wpList _ _ _ (_ :: _) _ _); (with_reducible apply wpl_storeIH); (· exact cell_int); (· rfl); (· rfl); (· rfl); (· exact H); (· (repeat (first | (with_reducible exact List.mem_cons_self) | with_reducible apply List.mem_cons_of_mem))); (· (rw [row17_sz]; omega)); (· exact row17_set _ t17 _); (· (repeat (first | (with_reducible exact Repl.here) | with_reducible apply Repl.there))); (clear H; intro _ H); (simp only [Act.put, List.setIfInBounds_toArray, List.set_cons_zero, List.set_cons_succ])))
      have H0 := H
      clear H
      rw [show (updN (fun i => (((fun _ => 99 : Nat → Nat) i : Nat) : Int)) t 0) = (updN (fun i => (((fun _ => 99 : Nat → Nat) i : Nat) : Int)) t ((0 : Nat) : Int)) from rfl, dist17_upd] at H0
      go_loopw [11] (fun i wr => LeastT W (Gr p c :: l) d pt i wr) (fun i _ => 16 - (intOf i).toNat)
      case atStart => exact ⟨0, _, rfl, by omega, InvN.start HD.out.1, H0⟩
      case round =>
        obtain ⟨n, T, rfl, hn, hI, H'⟩ := hrel.out
        clear H0 hrel
        have H := H'
        clear H'
        by_cases hlt : n < 16
        · have HI := Lib.hid (InvA.start HD.out.1 hI)
          clear hI
          go_wp2_with (go_skip)
          have H0 := H
          clear H
          go_loopw [12] (fun i wr => LeastA W (Gr p c :: l) d n pt i wr) (fun i _ => 17 - (intOf i).toNat)
          case atStart => exact ⟨1, T, rfl, by omega, by omega, HI.out, H0⟩
          case round =>
            clear HI
            obtain ⟨a, T, rfl, ha1, ha, hI, H'⟩ := hrel.out
            clear H0 hrel
            have H := H'
            clear H'
            by_cases hlt2 : a < 17
            · have HI := Lib.hid (InvB.start (HD.out.2.2.2 a) hI)
              clear hI
              go_wp2_with (go_skip)
              have H0 := H
              clear H
              go_loopw [13] (fun i wr => LeastB W (Gr p c :: l) c d n a pt i wr) (fun i _ => 17 - (intOf i).toNat)
              case atStart => exact ⟨1, T, rfl, by omega, by omega, HI.out, H0⟩
              case round =>
                clear HI
                obtain ⟨b, T, rfl, hb1, hb, hI, H'⟩ := hrel.out
                clear H0 hrel
                have H := H'
                clear H'
                by_cases hlt3 : b < 17
                · have HI := Lib.hid (hI.step HD.out.1 HD.out.2.1 (by omega))
                  have b1 := hI.inv.snd.le99 a
                  have b2 := hI.inv.snd.le99 b
                  clear hI
                  have hw : wrap64 ((T b : Int) + 1) = (T b : Int) + 1 := IntWalk.wrap64_in _ ⟨by omega, by omega⟩
                  have hcap := cap_H (W := W) (l := Cel pt (dist17 T) 74 :: Gr p c :: l) (p := p) (c := c) a b (by omega) (by omega) (List.mem_cons_of_mem _ List.mem_cons_self)
                  by_cases hA : 0 < capOf c a b
                  · have c1 : decide (capOf c a b > 0) = true := by simpa using hA
                    by_cases hT : T b + 1 < T a
                    · have c2 : decide ((T b : Int) + 1 < (T a : Int)) = true := by simp; omega
                      have HR := Lib.hid (show relT (edge c) T a b = updN T a (T b + 1) from if_pos ⟨edge_yes hA, hT⟩)
                      clear hA hT
                      go_wp2_with (go_skip)
                      refine wp_region_H H (by kernel_rfl) (by kernel_rfl) ?_
                      repeat (first | go_big_quiet_skip | ((with_reducible apply wpQ_loadCH); (· exact cell_int); (· rfl); (· rfl); (· (repeat (first | (with_reducible exact List.mem_cons_self) | with_reducible apply List.mem_cons_of_mem))); (· (first | exact dist17_get _ hlt2 | exact dist17_get _ hlt3)); (simp only [Act.put, List.setIfInBounds_toArray, List.set_cons_zero, List.set_cons_succ])) | go_big_quiet_step (exact hcap.quiet))
                      refine wpQuiet_nil ?_
                      clear H
                      intro _ H
                      go_wp2_with (first
                        | go_skip
                        | ((with_reducible show wpList _ _ _ (_ :: _) _ _); (with_reducible apply wpl_loadCH); (· exact cell_int); (· rfl); (· rfl); (· exact H); (· (repeat (first | (with_reducible exact List.mem_cons_self) | with_reducible apply List.mem_cons_of_mem))); (· exact dist17_get _ hlt3); (simp only [Act.put, List.setIfInBounds_toArray, List.set_cons_zero, List.set_cons_succ]))
                        | ((with_reducible show wpList _ _ _ (_ :: _) _ _); (with_reducible apply wpl_storeIH); (· exact cell_int); (· rfl); (· rfl); (· rfl); (· exact H); (· (repeat (first | (with_reducible exact List.mem_cons_self) | with_reducible apply List.mem_cons_of_mem))); (· (rw [dist17_sz]; omega)); (· exact dist17_set _ hlt2 _); (· (repeat (first | (with_reducible exact Repl.here) | with_reducible apply Repl.there))); (clear H; intro _ H); (simp only [Act.put, List.setIfInBounds_toArray, List.set_cons_zero, List.set_cons_succ])))
                      go_roundw
                      case rel => exact ⟨⟨b + 1, _, by go_num, by omega, by omega, HI.out, by rw [HR.out]; exact H⟩⟩
                      case measure => simp [intOf]; omega
                    · have c2 : decide ((T b : Int) + 1 < (T a : Int)) = false := by simp; omega
                      have HR := Lib.hid (show relT (edge c) T a b = T from if_neg (fun h => hT h.2))
                      clear hA hT
                      go_wp2_with (go_skip)
                      refine wp_region_H H (by kernel_rfl) (by kernel_rfl) ?_
                      repeat (first | go_big_quiet_skip | ((with_reducible apply wpQ_loadCH); (· exact cell_int); (· rfl); (· rfl); (· (repeat (first | (with_reducible exact List.mem_cons_self) | with_reducible apply List.mem_cons_of_mem))); (· (first | exact dist17_get _ hlt2 | exact dist17_get _ hlt3)); (simp only [Act.put, List.setIfInBounds_toArray, List.set_cons_zero, List.set_cons_succ])) | go_big_quiet_step (exact hcap.quiet))
                      refine wpQuiet_nil ?_
                      clear H
                      intro _ H
                      go_wp2_with (go_skip)
                      refine ⟨?_, ?measure⟩
                      · exact ⟨⟨b + 1, T, by go_num, by omega, by omega, by rw [← HR.out]; exact HI.out, H⟩⟩
                      case measure => simp [intOf]; omega
                  · have c1 : decide (capOf c a b > 0) = false := by simpa using hA
                    have HR := Lib.hid (show relT (edge c) T a b = T from if_neg (fun h => by rw [edge_no hA] at h; exact absurd h.1 Bool.false_ne_true))
                    clear hA
                    go_wp2_with (go_skip)
                    refine wp_region_H H (by kernel_rfl) (by kernel_rfl) ?_
                    repeat (first | go_big_quiet_skip | ((with_reducible apply wpQ_loadCH); (· exact cell_int); (· rfl); (· rfl); (· (repeat (first | (with_reducible exact List.mem_cons_self) | with_reducible apply List.mem_cons_of_mem))); (· (first | exact dist17_get _ hlt2 | exact dist17_get _ hlt3)); (simp only [Act.put, List.setIfInBounds_toArray, List.set_cons_zero, List.set_cons_succ])) | go_big_quiet_step (exact hcap.quiet))
                    refine wpQuiet_nil ?_
                    clear H
                    intro _ H
                    go_wp2_with (go_skip)
                    refine ⟨?_, ?measure⟩
                    · exact ⟨⟨b + 1, T, by go_num, by omega, by omega, by rw [← HR.out]; exact HI.out, H⟩⟩
                    case measure => simp [intOf]; omega
                · obtain rfl : b = 17 := by omega
                  have HI := Lib.hid (hI.done HD.out.1)
                  clear hI
                  go_wp2_with (go_skip)
                  go_roundw
                  case rel => exact ⟨⟨a + 1, T, by go_num, by omega, by omega, HI.out, H⟩⟩
                  case measure => simp [intOf]; omega
            · obtain rfl : a = 17 := by omega
              have HI := Lib.hid (hI.done HD.out.1)
              clear hI
              go_wp2_with (go_skip)
              go_roundw
              case rel => exact ⟨⟨n + 1, T, by go_num, by omega, HI.out, H⟩⟩
              case measure => simp [intOf]; omega
        · obtain rfl : n = 16 := by omega
          obtain rfl : T = leftT d := funext (hI.end HD.out.1)
          clear hI
          go_wp2_with (go_skip)
          refine (S _ p (by (repeat (first | (with_reducible exact List.mem_cons_self) | with_reducible apply List.mem_cons_of_mem))) _ H).mono ?_
          clear H S
          rintro e w2 ⟨v, Lw, rfl, hs, H⟩
          by_cases hdf : d f < 17
          · have hW : Way (edge c) d f t Lw ∧ ∀ x ∈ Lw, x ≤ 16 := by
              rcases hs with ⟨_, h | h | h | ⟨d', hd', h17⟩⟩ | ⟨_, _, _, d', hd', h17, hw⟩
              · rw [show mayP f = true by simp [mayP]; omega] at h; cases h
              · rw [show mayP t = true by simp [mayP]; omega] at h; cases h
              · exact absurd h HNE.out
              · rw [hd'.eq HD.out.1 f] at h17; omega
              · obtain rfl : d' = d := funext (hd'.eq HD.out.1)
                refine ⟨hw, fun x hx => ?_⟩
                obtain ⟨i, hi⟩ := List.mem_iff_getElem?.1 hx
                have := hw.at i x hi
                have := HD.out.1.ins x (by omega)
                omega
            obtain ⟨m, hm⟩ : ∃ m, d f = m := ⟨_, rfl⟩
            have hm1 : m ≤ 15 := by have := HD.out.1.ins f hdf; omega
            have hlen : Lw.length = m + 1 := by rw [hW.1.len, hm]
            have hTf : leftT d f = m := by rw [leftT_in hdf, hm]
            rw [hlen] at H
            obtain ⟨g, o, cc, rfl, _, _⟩ := OwnT.form (H.ok _ List.mem_cons_self) (by omega)
            have hcx : ∀ (i x : Nat), Lw[i]? = some x → ∀ w', Heap W (OwnT 33 1 (.slice (some ⟨g, o, none⟩) (m + 1) cc) (m + 1) (Lw.map pv) :: Cel pt (dist17 (leftT d)) 74 :: Gr p c :: l) w' → w'.cell? ⟨g, o + i, none⟩ = some (.int .u8 (x : Int)) := fun i x hx w' h => rd_party (h.ownRd List.mem_cons_self) hx
            have c1 : decide (((leftT d f : Nat) : Int) > 16) = false := by rw [hTf]; simp; omega
            have g1 : leftT d f ≤ 15 := by omega
            have c2 : ((((m + 1 : Nat) : Int)) != ((leftT d f : Nat) : Int) + 1) = false := by rw [hTf]; simp
            have c2' : (((m : Int) + 1) != ((leftT d f : Nat) : Int) + 1) = false := by rw [hTf]; simp
            have c3 : ((f : Int) != (f : Int)) = false := by simp
            have c4 : ((t : Int) != (t : Int)) = false := by simp
            have hc0 := hcx 0 f hW.1.head
            have hcl := hcx m t (by have := hW.1.last; rw [hlen] at this; exact this)
            rw [Nat.add_zero] at hc0
            have HC := Lib.hid (And.intro hcx (And.intro hc0 hcl))
            have HW := Lib.hid (And.intro hW (And.intro hm hlen))
            clear hcx hc0 hcl hW hm hlen hTf hs hdf
            go_wp2_with (first
              | go_skip
              | ((with_reducible show wpList _ _ _ (_ :: _) _ _); (with_reducible apply wpl_loadCH); (· exact cell_int); (· rfl); (· rfl); (· exact H); (· (repeat (first | (with_reducible exact List.mem_cons_self) | with_reducible apply List.mem_cons_of_mem))); (· exact dist17_get _ f17); (simp only [Act.put, List.setIfInBounds_toArray, List.set_cons_zero, List.set_cons_succ]))
              | ((with_reducible show wpList _ _ _ (_ :: _) _ _); (with_reducible apply wpl_loadCell); (· exact cell_party); (· rfl); (· rfl); (· first | exact HC.out.2.1 _ H | exact HC.out.2.2 _ H); (simp only [Act.put, List.setIfInBounds_toArray, List.set_cons_zero, List.set_cons_succ])))
            have H0 := H
            clear H
            go_loopw [15] (fun i wr => LeastI W (OwnT 33 1 (.slice (some ⟨g, o, none⟩) (m + 1) cc) (m + 1) (Lw.map pv) :: Cel pt (dist17 (leftT d)) 74 :: Gr p c :: l) m i wr) (fun i _ => m + 1 - (intOf i).toNat)
            case atStart => exact ⟨0, rfl, by omega, H0⟩
            case round =>
              obtain ⟨k, rfl, hk, H'⟩ := hrel.out
              clear H0 hrel
              have H := H'
              clear H'
              by_cases hlt : k < m
              · have hwl := HW.out.2.2
                have hx : Lw[k]? = some Lw[k] := List.getElem?_eq_getElem (by omega)
                have hy : Lw[k + 1]? = some Lw[k + 1] := List.getElem?_eq_getElem (by omega)
                generalize Lw[k] = x at hx
                generalize Lw[k + 1] = y at hy
                have hx16 := HW.out.1.2 x (List.mem_iff_getElem?.2 ⟨_, hx⟩)
                have hy16 := HW.out.1.2 y (List.mem_iff_getElem?.2 ⟨_, hy⟩)
                have hnext := HW.out.1.1.steps k x y hx hy
                have hdx := HW.out.1.1.at k x hx
                have hdy := HW.out.1.1.at (k + 1) y hy
                rw [HW.out.2.1] at hdx hdy
                have hcx := HC.out.1 k x hx
                have hcy := HC.out.1 (k + 1) y hy
                have hTy : leftT d y = d y := leftT_in (by omega)
                have hcap := cap_H (W := W) (l := OwnT 33 1 (.slice (some ⟨g, o, none⟩) (m + 1) cc) (m + 1) (Lw.map pv) :: Cel pt (dist17 (leftT d)) 74 :: Gr p c :: l) (p := p) (c := c) x y (by omega) (by omega) (by (repeat (first | (with_reducible exact List.mem_cons_self) | with_reducible apply List.mem_cons_of_mem)))
                have hcap2 : 1 ≤ capOf c x y := by have := hnext.good.2; unfold edge at this; simp at this; omega
                have d1 : decide (((y : Int)) > 16) = false := by simp; omega
                have d2 : decide (capOf c x y < 1) = false := by simp; omega
                have b1 : leftT d y ≤ 15 := by omega
                have d3 : (((leftT d y : Nat) : Int) != (m : Int) - ((k : Int) + 1)) = false := by rw [hTy]; simp; omega
                have w1 : IntKind.i64.wrap ((k : Int) + 1 - 1) = (k : Int) := by rw [Int.add_sub_cancel]; exact IntWalk.i64_in _ ⟨by omega, by omega⟩
                have w2 : IntKind.i64.wrap ((m : Int) + 1 - 1) = (m : Int) := by rw [Int.add_sub_cancel]; exact IntWalk.i64_in _ ⟨by omega, by omega⟩
                have w3 : IntKind.i64.wrap ((m : Int) - ((k : Int) + 1)) = (m : Int) - ((k : Int) + 1) := IntWalk.i64_in _ ⟨by omega, by omega⟩
                have hy1 := hnext.ge
                have y17 : y < 17 := by omega
                have x17 : x < 17 := by omega
                have HN := Lib.hid (And.intro hnext (And.intro hdx (And.intro hdy hTy)))
                have HCX := Lib.hid (And.intro hcx hcy)
                clear hwl hx hy hnext hdx hdy hcx hcy hTy hcap2
                go_wp2_with (go_skip)
                refine wp_region_H H (by kernel_rfl) (by kernel_rfl) ?_
                repeat (first | go_big_quiet_skip | (first | ((with_reducible apply wpQ_loadCH); (· exact cell_int); (· rfl); (· rfl); (· (repeat (first | (with_reducible exact List.mem_cons_self) | with_reducible apply List.mem_cons_of_mem))); (· exact dist17_get _ y17); (simp only [Act.put, List.setIfInBounds_toArray, List.set_cons_zero, List.set_cons_succ])) | ((with_reducible apply wpQ_loadCell); (· exact cell_party); (· rfl); (· rfl); (· first | exact HCX.out.1 | exact HCX.out.2); (simp only [Act.put, List.setIfInBounds_toArray, List.set_cons_zero, List.set_cons_succ]))) | go_big_quiet_step (exact hcap.quiet))
                refine wpQuiet_nil ?_
                clear H
                intro _ H
                go_wp2_with (go_skip)
                have H0 := H
                clear H
                go_loopw [16] (fun i wr => LeastP W (OwnT 33 1 (.slice (some ⟨g, o, none⟩) (m + 1) cc) (m + 1) (Lw.map pv) :: Cel pt (dist17 (leftT d)) 74 :: Gr p c :: l) y i wr) (fun i _ => 17 - (intOf i).toNat)
                case atStart => exact ⟨1, rfl, by omega, hy1, H0⟩
                case round =>
                  obtain ⟨z, rfl, hz1, hz, H'⟩ := hrel.out
                  clear H0 hrel
                  have H := H'
                  clear H'
                  by_cases hlt2 : z < y
                  · have z17 : z < 17 := by omega
                    have hcap3 := cap_H (W := W) (l := OwnT 33 1 (.slice (some ⟨g, o, none⟩) (m + 1) cc) (m + 1) (Lw.map pv) :: Cel pt (dist17 (leftT d)) 74 :: Gr p c :: l) (p := p) (c := c) x z (by omega) (by omega) (by (repeat (first | (with_reducible exact List.mem_cons_self) | with_reducible apply List.mem_cons_of_mem)))
                    by_cases hA : 0 < capOf c x z
                    · have c5 : decide (capOf c x z > 0) = true := by simpa using hA
                      have hne : leftT d z ≠ leftT d y := by
                        rw [HN.out.2.2.2]
                        intro e
                        have h2 := HN.out.2.2.1
                        have hdz : d z = d y := by
                          by_cases h17 : d z < 17
                          · rw [leftT_in h17] at e; exact e
                          · rw [leftT_out h17] at e; omega
                        have h3 := HN.out.2.1
                        exact HN.out.1.least z hz1 hlt2 ⟨by omega, edge_yes hA⟩
                      have c6 : (((leftT d z : Nat) : Int) == ((leftT d y : Nat) : Int)) = false := by simp; omega
                      clear hA hne
                      go_wp2_with (first
                        | go_skip
                        | ((with_reducible show wpList _ _ _ (_ :: _) _ _); (with_reducible apply wpl_loadCell); (· exact cell_party); (· rfl); (· rfl); (· exact HCX.out.2 _ H); (simp only [Act.put, List.setIfInBounds_toArray, List.set_cons_zero, List.set_cons_succ])))
                      refine wp_region_H H (by kernel_rfl) (by kernel_rfl) ?_
                      repeat (first | go_big_quiet_skip | (first | ((with_reducible apply wpQ_loadCH); (· exact cell_int); (· rfl); (· rfl); (· (repeat (first | (with_reducible exact List.mem_cons_self) | with_reducible apply List.mem_cons_of_mem))); (· first | exact dist17_get _ z17 | exact dist17_get _ y17); (simp only [Act.put, List.setIfInBounds_toArray, List.set_cons_zero, List.set_cons_succ])) | ((with_reducible apply wpQ_loadCell); (· exact cell_party); (· rfl); (· rfl); (· first | exact HCX.out.1 | exact HCX.out.2); (simp only [Act.put, List.setIfInBounds_toArray, List.set_cons_zero, List.set_cons_succ]))) | go_big_quiet_step (exact hcap3.quiet))
                      refine wpQuiet_nil ?_
                      clear H
                      intro _ H
                      go_wp2_with (go_skip)
                      refine ⟨?_, ?measure2⟩
                      · exact ⟨⟨z + 1, by go_num, by omega, by omega, H⟩⟩
                      case measure2 => simp [intOf]; omega
                    · have c5 : decide (capOf c x z > 0) = false := by simpa using hA
                      clear hA
                      go_wp2_with (first
                        | go_skip
                        | ((with_reducible show wpList _ _ _ (_ :: _) _ _); (with_reducible apply wpl_loadCell); (· exact cell_party); (· rfl); (· rfl); (· exact HCX.out.2 _ H); (simp only [Act.put, List.setIfInBounds_toArray, List.set_cons_zero, List.set_cons_succ])))
                      refine wp_region_H H (by kernel_rfl) (by kernel_rfl) ?_
                      repeat (first | go_big_quiet_skip | (first | ((with_reducible apply wpQ_loadCH); (· exact cell_int); (· rfl); (· rfl); (· (repeat (first | (with_reducible exact List.mem_cons_self) | with_reducible apply List.mem_cons_of_mem))); (· first | exact dist17_get _ z17 | exact dist17_get _ y17); (simp only [Act.put, List.setIfInBounds_toArray, List.set_cons_zero, List.set_cons_succ])) | ((with_reducible apply wpQ_loadCell); (· exact cell_party); (· rfl); (· rfl); (· first | exact HCX.out.1 | exact HCX.out.2); (simp only [Act.put, List.setIfInBounds_toArray, List.set_cons_zero, List.set_cons_succ]))) | go_big_quiet_step (exact hcap3.quiet))
                      refine wpQuiet_nil ?_
                      clear H
                      intro _ H
                      go_wp2_with (go_skip)
                      refine ⟨?_, ?measure2⟩
                      · exact ⟨⟨z + 1, by go_num, by omega, by omega, H⟩⟩
                      case measure2 => simp [intOf]; omega
                  · obtain rfl : z = y := by omega
                    go_wp2_with (first
                      | go_skip
                      | ((with_reducible show wpList _ _ _ (_ :: _) _ _); (with_reducible apply wpl_loadCell); (· exact cell_party); (· rfl); (· rfl); (· exact HCX.out.2 _ H); (simp only [Act.put, List.setIfInBounds_toArray, List.set_cons_zero, List.set_cons_succ])))
                    refine ⟨?_, ?measure2⟩
                    · exact ⟨⟨k + 1, by go_num, by omega, H⟩⟩
                    case measure2 => simp [intOf]; omega
              · obtain rfl : k = m := by omega
                go_wp2_with (first
                  | go_skip
                  | ((with_reducible refine (L _ _ H).mono ?_); clear H; rintro _ _ ⟨rfl, H⟩))
                go_ret
                exact ⟨rfl, H.tail.tail.tail⟩
          · have hL : Lw = [] := by
              rcases hs with ⟨h, _⟩ | ⟨_, _, _, d', hd', h17, _⟩
              · exact h
              · rw [hd'.eq HD.out.1 f] at h17; exact absurd h17 hdf
            subst hL
            have hT := leftT_out hdf
            have c1 : decide (((leftT d f : Nat) : Int) > 16) = true := by rw [hT]; rfl
            clear hs hdf hT
            obtain ⟨av, cv, rfl⟩ := OwnT.form0 (H.ok _ List.mem_cons_self)
            go_wp2_with (first
              | go_skip
              | ((with_reducible show wpList _ _ _ (_ :: _) _ _); (with_reducible apply wpl_loadCH); (· exact cell_int); (· rfl); (· rfl); (· exact H); (· (repeat (first | (with_reducible exact List.mem_cons_self) | with_reducible apply List.mem_cons_of_mem))); (· exact dist17_get _ f17); (simp only [Act.put, List.setIfInBounds_toArray, List.set_cons_zero, List.set_cons_succ]))
              | ((with_reducible refine (L _ _ H).mono ?_); clear H; rintro _ _ ⟨rfl, H⟩))
            go_ret
            exact ⟨rfl, H.tail.tail.tail⟩
end
end Go.Proofs.Ytglehneaphigdaa

/- PathsLeast: its arguments. -/
namespace Go.Proofs.Ytglehneaphigdaa
open Go.ChangeShapes Go.WideShapes Go.ChangeAt Go.RowKit

set_option maxRecDepth 100000
def FlowsV (w : World) (v : Value) : Prop := ∃ a n c F, v = .slice a n c ∧ FlowsArg w a n c F
theorem open_flowsV {H : Type} {enc : TypeId × Value → H} {W : World} {held : Bool} {v : Value} {d : DataW H} {p : List MemPlace} {r : Reach} {b0 : Nat}
    (hval : Value.okWide Try.prog W r b0 22 v) (h : DataW.Trod enc Try.prog W 0 (fun _ => true) held 22 v d p) : FlowsV W v := open_flows hval h
theorem mayP_no {a : Nat} (h : mayP a = false) : a < 1 ∨ 16 < a := by
  unfold mayP at h
  by_cases h1 : 1 ≤ a
  · by_cases h2 : a ≤ 16
    · simp [h1, h2] at h
    · omega
  · omega
theorem pathsLeast_law (v : Value) (x1 x2 : Int) (W : World) (o : FlowsV W v) (a1 : 0 ≤ x1) (a2 : x1 ≤ 255) (b1 : 0 ≤ x2) (b2 : x2 ≤ 255) :
    Calls Try.prog 8 #[v, .int .u8 x1, .int .u8 x2] W fun e w' => e = .returned (.bool true) ∧ Below W.heap.size W w' := by
  obtain ⟨a, n, c, F, rfl, hF⟩ := o
  obtain ⟨f, rfl⟩ : ∃ f : Nat, x1 = f := ⟨x1.toNat, by omega⟩
  obtain ⟨t, rfl⟩ : ∃ t : Nat, x2 = t := ⟨x2.toNat, by omega⟩
  have hn := hF.cap
  have hm := hF.max
  unfold maxLen at hm
  have H := Heap.start W
  have R : ∀ w', Heap W [] w' → Rd w' a (flwL F) := fun w' H => H.rd hF.rd
  by_cases h300 : 300 < n
  · exact (least_many a n c f t h300 (by omega) H).mono fun e w' ⟨he, hh⟩ => ⟨he, hh.low⟩
  · cases hG : newG F with
    | none => exact (least_none a n c f t F (by omega) hF.len hF.ok (by omega) (by omega) R hG H).mono fun e w' ⟨he, hh⟩ => ⟨he, hh.low⟩
    | some cc =>
      by_cases hb : mayP f = false ∨ mayP t = false ∨ f = t
      · refine (least_bad a n c f t F cc (by omega) hF.len hF.ok (by omega) (by omega) R hG hb ?_ H).mono fun e w' ⟨he, hh⟩ => ⟨he, hh.low⟩
        by_cases e : f = t
        · exact .inl (by simp [e])
        · have e1 : ((f : Int) == (t : Int)) = false := by simp; omega
          refine .inr ?_
          by_cases f1 : f < 1
          · exact .inl ⟨e1, f1⟩
          · by_cases f2 : 16 < f
            · exact .inr (.inl ⟨e1, by omega, f2⟩)
            · by_cases t1 : t < 1
              · exact .inr (.inr (.inl ⟨e1, by omega, by omega, t1⟩))
              · by_cases t2 : 16 < t
                · exact .inr (.inr (.inr ⟨e1, by omega, by omega, by omega, t2⟩))
                · rcases hb with h | h | h
                  · have := mayP_no h; omega
                  · have := mayP_no h; omega
                  · exact absurd h e
      · have hf : mayP f = true := by
          cases e : mayP f
          · exact absurd (.inl e) hb
          · rfl
        have ht : mayP t = true := by
          cases e : mayP t
          · exact absurd (.inr (.inl e)) hb
          · rfl
        exact (least_yes a n c f t F cc (by omega) hF.len hF.ok (mayP_true hf).1 (mayP_true hf).2 (mayP_true ht).1 (mayP_true ht).2 (fun e => hb (.inr (.inr e))) R hG H).mono fun e w' ⟨he, hh⟩ => ⟨he, hh.low⟩
end Go.Proofs.Ytglehneaphigdaa

/- An Ask as an argument. -/
namespace Go.Proofs.Ytglehneaphigdaa
open Go.ChangeShapes Go.WideShapes Go.ChangeAt Go.RowKit
set_option linter.unusedVariables false
set_option maxRecDepth 100000
theorem flat_ask : flat Try.prog 9 49 = some [33, 33, 2] := by kernel_rfl
def AskV (w : World) (v : Value) : Prop := ∃ (f t : Nat) (k : Int), v = .agg (flow (f : Int) (t : Int) k) ∧ f ≤ 255 ∧ t ≤ 255 ∧ -9223372036854775808 ≤ k ∧ k ≤ 9223372036854775807
theorem open_ask {H : Type} {enc : TypeId × Value → H} {W : World} {held : Bool} {v : Value} {d : DataW H} {p : List MemPlace} {r : Reach} {b0 : Nat}
    (hval : Value.okWide Try.prog W r b0 49 v) (h : DataW.Trod enc Try.prog W 0 (fun _ => true) held 49 v d p) : AskV W v := by
  obtain ⟨cs, rfl, hn, hp⟩ := open_flat (.inl ⟨_, Try.underlying49⟩) flat_ask hval h
  obtain ⟨x0, h0, k0⟩ := hp 0 _ rfl
  obtain ⟨x1, h1, k1⟩ := hp 1 _ rfl
  obtain ⟨x2, h2, k2⟩ := hp 2 _ rfl
  obtain ⟨a, rfl, ha⟩ := leaf_party k0
  obtain ⟨b, rfl, hb⟩ := leaf_party k1
  obtain ⟨n, rfl, hn0, hn1⟩ := leaf_i64 k2
  obtain ⟨l⟩ := cs
  refine ⟨a, b, n, ?_, ha, hb, hn0, hn1⟩
  match l, hn with
  | [c0, c1, c2], _ => simp at h0 h1 h2; subst_vars; rfl
end Go.Proofs.Ytglehneaphigdaa

/- FlowsMost: its arguments. -/
namespace Go.Proofs.Ytglehneaphigdaa
open Go.RowKit
set_option maxRecDepth 100000
theorem flowsMost_law (v z : Value) (W : World) (o : FlowsV W v) (q : AskV W z) :
    Calls Try.prog 4 #[v, z] W fun e w' => e = .returned (.bool true) ∧ Below W.heap.size W w' := by
  obtain ⟨a, n, c, F, rfl, hF⟩ := o
  obtain ⟨f, t, k, rfl, hf, ht, hk0, hk⟩ := q
  have hn := hF.cap
  have hm := hF.max
  unfold maxLen at hm
  have H := Heap.start W
  have R : ∀ l' w', (∀ x ∈ ([] : List Thing), x ∈ l') → Heap W l' w' → Rd w' a (flwL F) := fun _ w' _ H => H.rd hF.rd
  by_cases h300 : 300 < n
  · exact (fmost_many a n c f t k h300 (by omega) H).mono fun e w' ⟨he, hh⟩ => ⟨he, hh.low⟩
  · cases hG : newG F with
    | none => exact (fmost_none a n c f t k F (by omega) hF.len hF.ok hf ht hk R hG H).mono fun e w' ⟨he, hh⟩ => ⟨he, hh.low⟩
    | some cc =>
      by_cases ho : k < 1 ∨ f = t ∨ f < 1 ∨ 16 < f ∨ t < 1 ∨ 16 < t
      · exact (fmost_odd a n c f t k F cc (by omega) ho hf ht hk0 hk hF.len hF.ok R hG H).mono fun e w' ⟨he, hh⟩ => ⟨he, hh.low⟩
      · exact (fmost_some a n c f t k F cc (by omega) (by omega) (by omega) (by omega) (by omega) (by omega) (by omega) hk hF.len hF.ok R hG H).mono fun e w' ⟨he, hh⟩ => ⟨he, hh.low⟩
end Go.Proofs.Ytglehneaphigdaa
