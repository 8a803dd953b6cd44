/- The walk of ClientsAround: whatever the client, the nodes, the ticks and who answers, the law returns true. -/
import Derived.Test.YtjipelhcgglhhaaLives27
import Derived.Test.YtjipelhcgglhhaaCliRefused
import Derived.Test.YtjipelhcgglhhaaHeapMake
namespace Go.Proofs.Ytjipelhcgglhhaa
open Go.RowKit
set_option linter.unusedSimpArgs false
set_option linter.unusedVariables false
def two (a : Int) (b : Int) : Array Value := #[.int .u8 a, .int .u8 b]
section
variable (a : Int) (b : Int)
theorem two_sz : (two a b).size = 2 := rfl
theorem two_g0 : (two a b)[0]? = some (.int .u8 a) := rfl
theorem two_s0 (v : Int) : (two a b).setIfInBounds 0 (.int .u8 v) = two v b := rfl
theorem two_g1 : (two a b)[1]? = some (.int .u8 b) := rfl
theorem two_s1 (v : Int) : (two a b).setIfInBounds 1 (.int .u8 v) = two a v := rfl
end
set_option maxRecDepth 100000
set_option maxHeartbeats 3000000
theorem clientsAround_law (id n z0 z1 : Int) (w : World) (i0 : 0 ≤ id) (i1 : id ≤ 255) (n0 : 0 ≤ n) (n1 : n ≤ 255) (a0 : 0 ≤ z0) (a1 : z0 ≤ 255) (b0 : 0 ≤ z1) (b1 : z1 ≤ 255) :
    Calls Try.prog 4 #[.int .u8 id, .int .u8 n, .agg #[.int .u8 z0, .int .u8 z1]] w fun e w' => e = .returned (.bool true) ∧ Below w.heap.size w w' := by
  obtain ⟨K, hK, K0, K1⟩ : ∃ K, 1 + n % 7 = K ∧ 1 ≤ K ∧ K ≤ 7 := ⟨_, rfl, by omega, by omega⟩
  obtain ⟨ID, hI, I0, I1⟩ : ∃ K, 1 + id % 8 = K ∧ 1 ≤ K ∧ K ≤ 8 := ⟨_, rfl, by omega, by omega⟩
  have H := Heap.start w
  have kp : decide (0 < K) = true := by simp; omega
  go_enter Try.func4, Try.ntmps4
  go_wp2_with (first
    | go_skip
    | ((with_reducible show wpList _ _ _ (_ :: _) _ _); (with_reducible apply wpl_boxRH); (· rfl); (· rfl); (· exact H); (clear H; intro pb _ H); (change Heap _ (Cel pb (two _ _) _ :: _) _ at H); (simp only [Act.put, List.setIfInBounds_toArray, List.set_cons_zero, List.set_cons_succ]))
    | ((with_reducible show wpList _ _ _ (_ :: _) _ _); (with_reducible apply wpl_loadCH); (· exact cell_b8); (· rfl); (· rfl); (· exact H); (· (repeat (first | (with_reducible exact List.mem_cons_self) | with_reducible apply List.mem_cons_of_mem))); (· (with_reducible first | exact two_g0 .. | exact two_g1 ..)); (simp only [Act.put, List.setIfInBounds_toArray, List.set_cons_zero, List.set_cons_succ])))
  clear hK hI i0 i1 n0 n1
  have C := new_H ID K H I0 I1 K0 K1
  clear H
  refine C.mono ?_
  clear C
  rintro e w1 ⟨p, rfl, H⟩
  go_wp2_with fail
  go_loopw [11] (fun v wr => ∃ (m : Nat) (to waits : Int), m ≤ 3 ∧ v = .int .u64 ((m : Int) + 1) ∧ 1 ≤ to ∧ to ≤ K ∧ 0 ≤ waits ∧ waits ≤ 4 ∧ Heap w [Cli p ID K to m waits 0 0 0 0 0 (.slice none 0 0) false, Cel pb (two z0 z1) 56] wr) (fun v _ => 4 - (intOf v).toNat)
  case atStart => exact ⟨0, 1, 0, by omega, rfl, by omega, by omega, by omega, by omega, H⟩
  case round =>
    obtain ⟨m, to0, waits, hm, rfl, t0, t1, w0, w1, H'⟩ := hrel
    clear H
    by_cases hlt : m < 3
    · have hle : (m : Int) + 1 ≤ 3 := by omega
      go_wp2_with fail
      have C := command_H H'
      clear H'
      refine C.mono ?_
      clear C
      rintro e w2 ⟨g0, rfl, H⟩
      go_wp2_with fail
      have C := call_H p g0 0 1 1 ID K to0 m ((m : Int) + 1) waits 0 0 0 0 0 (.slice none 0 0) step1.toList (H.pull (.there .here)) (by omega) (by omega) step1_len step1_one (by omega) (by omega) kp (IntWalk.u64_in _ (by omega)) (fun w' H' => H'.celRd List.mem_cons_self)
      clear H
      refine C.mono ?_
      clear C
      rintro e w3 ⟨q, g', c', g, c0, rfl, H⟩
      go_wp2_with fail
      have C := command_H H
      clear H
      refine C.mono ?_
      clear C
      rintro e w4 ⟨g1, rfl, H⟩
      go_wp2_with fail
      have C := call_busy p ID K to0 ((m : Int) + 1) 0 6 (100 + ID) to0 ID ((m : Int) + 1) (.slice (some ⟨g, 0, none⟩) 1 c0) (.slice (some ⟨g1, 0, none⟩) 1 1) kp (H.pull (.there (.there (.there .here))))
      clear H
      refine C.mono ?_
      clear C
      rintro e w5 ⟨rfl, H⟩
      have t2 : 0 ≤ to0 := by omega
      have t3 : to0 ≤ 7 := by omega
      go_wp2_with (first | go_skip | ((with_reducible show wpList _ _ _ (_ :: _) _ _); (with_reducible apply wpl_loadCH); (· first | exact cell_b8 | exact cell_u64); (· rfl); (· rfl); (· exact H); (· (repeat (first | (with_reducible exact List.mem_cons_self) | with_reducible apply List.mem_cons_of_mem))); (· (with_reducible first | exact lett_g0 .. | exact lett_g1 .. | exact lett_g2 .. | exact lett_g3 .. | exact lett_g4 .. | exact lett_g5 .. | exact lett_g6 .. | exact lett_g7 .. | exact lett_g8 .. | exact lett_g9 .. | exact lett_g10 .. | exact lett_g11 .. | exact lett_g12 .. | exact lett_g13 .. | exact lett_g14 .. | exact lett_g15 .. | exact lett_g16 ..)); (simp only [Act.put, List.setIfInBounds_toArray, List.set_cons_zero, List.set_cons_succ])))
      replace H := (H.drop (.there .here))
      go_loopw [16, 17] (fun a b wr => ∃ (i : Nat) (to wt : Int), 1 ≤ i ∧ (i : Int) ≤ z0 + 1 ∧ a = .int .i64 to ∧ b = .int .i64 i ∧ 1 ≤ to ∧ to ≤ K ∧ ((i : Int) - 1) % 5 = wt ∧ Heap w [Cli p ID K to ((m : Int) + 1) wt 6 (100 + ID) to ID ((m : Int) + 1) (.slice (some ⟨g, 0, none⟩) 1 c0) true, StepsT g 1 c0 step1.toList, Cel q (lett 6 (100 + ID) to0 ID ((m : Int) + 1) (.slice (some ⟨g', 0, none⟩) 1 1)) 36, Cel pb (two z0 z1) 56] wr) (fun _ b _ => (z0 + 1 - intOf b).toNat)
      case atStart => exact ⟨1, to0, 0, by omega, by omega, rfl, rfl, by omega, by omega, by omega, (((H.pull (.there (.there (.there .here)))).drop (.there (.there (.there .here)))).drop (.there (.there (.there .here)))).pull (.there .here)⟩
      case round =>
        obtain ⟨i, to, wt, hi0, hi1, rfl, rfl, x0, x1, hwt, H'⟩ := hrel
        clear H
        have HWT := Lib.hid hwt
        clear hwt
        have x2 : 0 ≤ to := by omega
        have x3 : to ≤ 7 := by omega
        have hi2 : (i : Int) ≤ 256 := by omega
        have hi3 : (0 : Int) ≤ i := by omega
        by_cases hle2 : (i : Int) ≤ z0
        · by_cases hfive : (i : Int) % 5 = 0
          · have hb : ((i : Int) % 5 == 0) = true := by simpa using hfive
            have hb' : decide ((i : Int) % 5 = 0) = true := by simpa using hfive
            obtain rfl : wt = 4 := by have := HWT.out; omega
            obtain ⟨to', HT, y0, y1⟩ : ∃ to', Hid (to % K + 1 = to') ∧ 1 ≤ to' ∧ to' ≤ K := ⟨_, Lib.hid rfl, by have := Int.emod_nonneg to (b := K) (by omega); omega, by have := Int.emod_lt_of_pos to (b := K) (by omega); omega⟩
            have hK0 : (K == 0) = false := by simp; omega
            clear hfive
            go_wp2_with fail
            have C := tick_call p g 1 c0 ID K to to' ((m : Int) + 1) 6 (100 + ID) to ID ((m : Int) + 1) step1.toList (by omega) (by omega) (by omega) (by omega) step1_len step1_one (by omega) HT.out H'
            clear H'
            refine C.mono ?_
            clear C
            rintro e w6 ⟨q5, g5, c5, rfl, H⟩
            have y2 : 0 ≤ to' := by omega
            have y3 : to' ≤ 7 := by omega
            go_wp2_with fail
            have hwr : wrap64 (to % K + 1) = to' := by
              rw [HT.out]
              exact IntWalk.wrap64_in to' ⟨by omega, by omega⟩
            refine wp_region_H H (by kernel_rfl) (by kernel_rfl) ?_
            repeat (first | go_big_quiet_skip | ((with_reducible apply wpQ_loadCH); (· first | exact cell_b8 | exact cell_u64 | exact cell_steps); (· rfl); (· rfl); (· (repeat (first | (with_reducible exact List.mem_cons_self) | with_reducible apply List.mem_cons_of_mem))); (· (with_reducible first | exact lett_g0 .. | exact lett_g1 .. | exact lett_g2 .. | exact lett_g3 .. | exact lett_g4 .. | exact lett_g5 .. | exact lett_g6 .. | exact lett_g7 .. | exact lett_g8 .. | exact lett_g9 .. | exact lett_g10 .. | exact lett_g11 .. | exact lett_g12 .. | exact lett_g13 .. | exact lett_g14 .. | exact lett_g15 .. | exact lett_g16 ..)); (simp only [Act.put, List.setIfInBounds_toArray, List.set_cons_zero, List.set_cons_succ])) | go_big_quiet_step (fail))
            refine wpQuiet_nil ?_
            clear H
            intro _ H
            go_wp2_with (first | go_skip | ((with_reducible show wpList _ _ _ (_ :: _) _ _); (with_reducible apply wpl_loadCH); (· first | exact cell_b8 | exact cell_u64); (· rfl); (· rfl); (· exact H); (· (repeat (first | (with_reducible exact List.mem_cons_self) | with_reducible apply List.mem_cons_of_mem))); (· (with_reducible first | exact lett_g0 .. | exact lett_g1 .. | exact lett_g2 .. | exact lett_g3 .. | exact lett_g4 .. | exact lett_g5 .. | exact lett_g6 .. | exact lett_g7 .. | exact lett_g8 .. | exact lett_g9 .. | exact lett_g10 .. | exact lett_g11 .. | exact lett_g12 .. | exact lett_g13 .. | exact lett_g14 .. | exact lett_g15 .. | exact lett_g16 ..)); (simp only [Act.put, List.setIfInBounds_toArray, List.set_cons_zero, List.set_cons_succ])))
            clear hwr
            go_roundw
            case rel => exact ⟨i + 1, to', 0, by omega, by omega, rfl, by go_num, by omega, by omega, by have := HWT.out; omega, (H.tail.tail)⟩
            case measure => simp [intOf]; omega
          · have hb : ((i : Int) % 5 == 0) = false := by simpa using hfive
            have hb' : decide ((i : Int) % 5 = 0) = false := by simpa using hfive
            have hw5 : wt + 1 = (i : Int) % 5 := by have := HWT.out; omega
            have hw4 : wt < 4 := by omega
            have hw0 : 0 ≤ wt := by omega
            have HW5 := Lib.hid hw5
            clear hfive hw5
            go_wp2_with fail
            have C := tick_wait p ID K to ((m : Int) + 1) wt 6 (100 + ID) to ID ((m : Int) + 1) (.slice (some ⟨g, 0, none⟩) 1 c0) kp hw0 hw4 H'
            clear H'
            refine C.mono ?_
            clear C
            rintro e w6 ⟨rfl, H⟩
            go_wp2_with fail
            go_roundw
            case rel => exact ⟨i + 1, to, wt + 1, by omega, by omega, rfl, by go_num, by omega, by omega, by have := HW5.out; omega, H⟩
            case measure => simp [intOf]; omega
        · go_wp2_with fail
          obtain ⟨F, HF, f0, f1⟩ : ∃ F, Hid (1 + z1 % K = F) ∧ 1 ≤ F ∧ F ≤ K := ⟨_, Lib.hid rfl, by have := Int.emod_nonneg z1 (b := K) (by omega); omega, by have := Int.emod_lt_of_pos z1 (b := K) (by omega); omega⟩
          have hF : IntKind.u8.wrap (1 + z1 % K) = F := by
            rw [HF.out]
            exact IntWalk.u8_in _ (by omega)
          have hK0 : (K == 0) = false := by simp; omega
          have hm1 : (m : Int) + 1 ≤ 4 := by omega
          have H := H'
          clear H'
          refine wp_region_X_make (m := 20) H (by kernel_rfl) (by kernel_rfl) rfl (makesX_row row_letg (fun _ => rfl)) ?_
          simp only [List.take_succ_cons, List.take_zero, List.drop_succ_cons, List.drop_zero]
          iterate 20 (apply wpX_step; (· rfl); (· exact Nat.le_of_ble_eq_true rfl); (· intro w0 H0; (first | ((with_reducible apply wpQ_loadCX); (· exact cell_b8); (· rfl); (· rfl); (· exact H0); (· (repeat (first | (with_reducible exact List.mem_cons_self) | with_reducible apply List.mem_cons_of_mem))); (· (with_reducible first | exact lett_g0 .. | exact lett_g1 .. | exact lett_g2 .. | exact lett_g3 .. | exact lett_g4 .. | exact lett_g5 .. | exact lett_g6 .. | exact lett_g7 .. | exact lett_g8 .. | exact lett_g9 .. | exact lett_g10 .. | exact lett_g11 .. | exact lett_g12 .. | exact lett_g13 .. | exact lett_g14 .. | exact lett_g15 .. | exact lett_g16 ..)); (simp only [Act.put, List.setIfInBounds_toArray, List.set_cons_zero, List.set_cons_succ])) | go_big_quiet_step (fail)); (refine wpQuiet_nil ?_); (simp only [Array.getD_eq_getD_getElem?, List.getElem?_toArray, List.getElem?_cons_succ, List.getElem?_cons_zero, Option.getD_some]; rfl)); (simp only [Act.put, List.setIfInBounds_toArray, List.set_cons_zero, List.set_cons_succ]))
          clear H
          intro pr _ H
          clear hF
          go_wp2_with (first
            | go_skip
            | ((with_reducible show wpList _ _ _ (_ :: _) _ _); (with_reducible apply wpl_loadRH row_letg); (· rfl); (· rfl); (· exact H); (· (repeat (first | (with_reducible exact List.mem_cons_self) | with_reducible apply List.mem_cons_of_mem))); (· (simp only [letg_sz, Nat.reduceAdd, Nat.reduceLeDiff, Nat.le_refl]; done)); (· with_reducible exact letg_all ..); (simp only [Act.put, List.setIfInBounds_toArray, List.set_cons_zero, List.set_cons_succ]))
            | ((with_reducible show wpList _ _ _ (_ :: _) _ _); (with_reducible apply wpl_allocRH row_letg); (· rfl); (· exact H); (clear H; intro po _ H); (simp only [Act.put, List.setIfInBounds_toArray, List.set_cons_zero, List.set_cons_succ]))
            | ((with_reducible show wpList _ _ _ (_ :: _) _ _); (with_reducible apply wpl_storeRH row_letg); (· rfl); (· rfl); (· rfl); (· with_reducible first | exact letg_cells0 .. | exact letg_cells1 ..); (· exact H); (· (repeat (first | (with_reducible exact List.mem_cons_self) | with_reducible apply List.mem_cons_of_mem))); (· (simp only [letg_sz, Nat.reduceAdd, Nat.reduceLeDiff, Nat.le_refl]; done)); (· with_reducible first | exact letg_splice _ _ _ _ _ _ _ _ _ _ _ _ _ _ _ _ _ _ rfl | exact letg_put _ _ _ _ _ _ _ _ _ _ _ _ _ _ _ _ _ _ rfl); (· (repeat (first | (with_reducible exact Repl.here) | with_reducible apply Repl.there))); (clear H; intro _ H); (simp only [Act.put, List.setIfInBounds_toArray, List.set_cons_zero, List.set_cons_succ]))
            | (first | ((with_reducible show wpList _ _ _ (_ :: _) _ _); (with_reducible apply wpl_storeIH); (· exact cell_u64); (· rfl); (· rfl); (· rfl); (· exact H); (· (repeat (first | (with_reducible exact List.mem_cons_self) | with_reducible apply List.mem_cons_of_mem))); (· (simp only [letg_sz, Nat.reduceLT]; done)); (· (with_reducible first | exact letg_s0 .. | exact letg_s1 .. | exact letg_s2 .. | exact letg_s3 .. | exact letg_s4 .. | exact letg_s5 .. | exact letg_s6 .. | exact letg_s7 .. | exact letg_s8 .. | exact letg_s9 .. | exact letg_s10 .. | exact letg_s11 .. | exact letg_s12 .. | exact letg_s13 .. | exact letg_s14 .. | exact letg_s15 .. | exact letg_s16 ..)); (· (repeat (first | (with_reducible exact Repl.here) | with_reducible apply Repl.there))); (clear H; intro _ H); (simp only [Act.put, List.setIfInBounds_toArray, List.set_cons_zero, List.set_cons_succ])) | ((with_reducible show wpList _ _ _ (_ :: _) _ _); (with_reducible apply wpl_storeBH); (· exact cell_u64); (· rfl); (· rfl); (· rfl); (· exact H); (· (repeat (first | (with_reducible exact List.mem_cons_self) | with_reducible apply List.mem_cons_of_mem))); (· (simp only [letg_sz, Nat.reduceLT]; done)); (· (with_reducible first | exact letg_s0 .. | exact letg_s1 .. | exact letg_s2 .. | exact letg_s3 .. | exact letg_s4 .. | exact letg_s5 .. | exact letg_s6 .. | exact letg_s7 .. | exact letg_s8 .. | exact letg_s9 .. | exact letg_s10 .. | exact letg_s11 .. | exact letg_s12 .. | exact letg_s13 .. | exact letg_s14 .. | exact letg_s15 .. | exact letg_s16 ..)); (· (repeat (first | (with_reducible exact Repl.here) | with_reducible apply Repl.there))); (clear H; intro _ H); (simp only [Act.put, List.setIfInBounds_toArray, List.set_cons_zero, List.set_cons_succ])) | ((with_reducible show wpList _ _ _ (_ :: _) _ _); (with_reducible apply wpl_storeSH); (· exact cell_u64); (· rfl); (· rfl); (· rfl); (· exact H); (· (repeat (first | (with_reducible exact List.mem_cons_self) | with_reducible apply List.mem_cons_of_mem))); (· (simp only [letg_sz, Nat.reduceLT]; done)); (· (with_reducible first | exact letg_s0 .. | exact letg_s1 .. | exact letg_s2 .. | exact letg_s3 .. | exact letg_s4 .. | exact letg_s5 .. | exact letg_s6 .. | exact letg_s7 .. | exact letg_s8 .. | exact letg_s9 .. | exact letg_s10 .. | exact letg_s11 .. | exact letg_s12 .. | exact letg_s13 .. | exact letg_s14 .. | exact letg_s15 .. | exact letg_s16 ..)); (· (repeat (first | (with_reducible exact Repl.here) | with_reducible apply Repl.there))); (clear H; intro _ H); (simp only [Act.put, List.setIfInBounds_toArray, List.set_cons_zero, List.set_cons_succ])) | ((with_reducible show wpList _ _ _ (_ :: _) _ _); (with_reducible apply wpl_storePH); (· exact cell_u64); (· rfl); (· rfl); (· rfl); (· exact H); (· (repeat (first | (with_reducible exact List.mem_cons_self) | with_reducible apply List.mem_cons_of_mem))); (· (simp only [letg_sz, Nat.reduceLT]; done)); (· (with_reducible first | exact letg_s0 .. | exact letg_s1 .. | exact letg_s2 .. | exact letg_s3 .. | exact letg_s4 .. | exact letg_s5 .. | exact letg_s6 .. | exact letg_s7 .. | exact letg_s8 .. | exact letg_s9 .. | exact letg_s10 .. | exact letg_s11 .. | exact letg_s12 .. | exact letg_s13 .. | exact letg_s14 .. | exact letg_s15 .. | exact letg_s16 ..)); (· (repeat (first | (with_reducible exact Repl.here) | with_reducible apply Repl.there))); (clear H; intro _ H); (simp only [Act.put, List.setIfInBounds_toArray, List.set_cons_zero, List.set_cons_succ]))))
          have f2 : 0 ≤ F := by omega
          have f3 : F ≤ 255 := by omega
          have hne : ((m : Int) != (m : Int) + 1) = true := by simp; omega
          have hself : ((m : Int) + 1 != (m : Int) + 1) = false := by simp
          have hlo : decide (F < 1) = false := by simp; omega
          have hhi : decide (K < F) = false := by simp; omega
          have C := take_num p ID K to ((m : Int) + 1) wt 6 (100 + ID) to ID ((m : Int) + 1) (.slice (some ⟨g, 0, none⟩) 1 c0) true 7 F (100 + ID) 0 0 0 0 false (.slice none 0 0) (.slice none 0 0) ID m (.slice none 0 0) 0 0 z1 (.slice none 0 0) kp (by omega) (by omega) rfl (by decide) (by simp) (by simp) hne (H.pull (.there (.there .here)))
          clear H
          refine C.mono ?_
          clear C
          rintro e w7 ⟨rfl, H⟩
          go_wp2_with (first
            | go_skip
            | ((with_reducible show wpList _ _ _ (_ :: _) _ _); (with_reducible apply wpl_loadRH row_letg); (· rfl); (· rfl); (· exact H); (· (repeat (first | (with_reducible exact List.mem_cons_self) | with_reducible apply List.mem_cons_of_mem))); (· (simp only [letg_sz, Nat.reduceAdd, Nat.reduceLeDiff, Nat.le_refl]; done)); (· with_reducible exact letg_all ..); (simp only [Act.put, List.setIfInBounds_toArray, List.set_cons_zero, List.set_cons_succ]))
            | ((with_reducible show wpList _ _ _ (_ :: _) _ _); (with_reducible apply wpl_allocRH row_rep); (· rfl); (· exact H); (clear H; intro pa _ H); (simp only [Act.put, List.setIfInBounds_toArray, List.set_cons_zero, List.set_cons_succ]))
            | ((with_reducible show wpList _ _ _ (_ :: _) _ _); (with_reducible apply wpl_storeRH row_rep); (· rfl); (· rfl); (· rfl); (· with_reducible exact rep_cells ..); (· exact H); (· (repeat (first | (with_reducible exact List.mem_cons_self) | with_reducible apply List.mem_cons_of_mem))); (· (simp only [rep_sz, Nat.reduceAdd, Nat.reduceLeDiff, Nat.le_refl]; done)); (· with_reducible exact rep_splice ..); (· (repeat (first | (with_reducible exact Repl.here) | with_reducible apply Repl.there))); (clear H; intro _ H); (simp only [Act.put, List.setIfInBounds_toArray, List.set_cons_zero, List.set_cons_succ])))
          have C := take_done p ID K to ((m : Int) + 1) wt 6 (100 + ID) to ID ((m : Int) + 1) (.slice (some ⟨g, 0, none⟩) 1 c0) F 0 0 0 0 false (.slice none 0 0) (.slice none 0 0) (.slice none 0 0) 0 z1 kp (by omega) (by omega) hlo hhi (H.pull (.there .here))
          clear H
          refine C.mono ?_
          clear C
          rintro e w8 ⟨rfl, H⟩
          go_wp2_with (first
            | go_skip
            | ((with_reducible show wpList _ _ _ (_ :: _) _ _); (with_reducible apply wpl_loadRH row_letg); (· rfl); (· rfl); (· exact H); (· (repeat (first | (with_reducible exact List.mem_cons_self) | with_reducible apply List.mem_cons_of_mem))); (· (simp only [letg_sz, Nat.reduceAdd, Nat.reduceLeDiff, Nat.le_refl]; done)); (· with_reducible exact letg_all ..); (simp only [Act.put, List.setIfInBounds_toArray, List.set_cons_zero, List.set_cons_succ]))
            | ((with_reducible show wpList _ _ _ (_ :: _) _ _); (with_reducible apply wpl_allocRH row_rep); (· rfl); (· exact H); (clear H; intro pb2 _ H); (simp only [Act.put, List.setIfInBounds_toArray, List.set_cons_zero, List.set_cons_succ]))
            | ((with_reducible show wpList _ _ _ (_ :: _) _ _); (with_reducible apply wpl_storeRH row_rep); (· rfl); (· rfl); (· rfl); (· with_reducible exact rep_cells ..); (· exact H); (· (repeat (first | (with_reducible exact List.mem_cons_self) | with_reducible apply List.mem_cons_of_mem))); (· (simp only [rep_sz, Nat.reduceAdd, Nat.reduceLeDiff, Nat.le_refl]; done)); (· with_reducible exact rep_splice ..); (· (repeat (first | (with_reducible exact Repl.here) | with_reducible apply Repl.there))); (clear H; intro _ H); (simp only [Act.put, List.setIfInBounds_toArray, List.set_cons_zero, List.set_cons_succ])))
          have C := take_shut p ID K to ((m : Int) + 1) wt 0 0 0 0 0 (.slice none 0 0) false 7 F (100 + ID) 0 0 0 0 false (.slice none 0 0) (.slice none 0 0) ID ((m : Int) + 1) (.slice none 0 0) 0 0 z1 (.slice none 0 0) kp (by omega) (by omega) rfl (H.pull (.there .here))
          clear H
          refine C.mono ?_
          clear C
          rintro e w9 ⟨rfl, H⟩
          unfold Cli at H
          go_wp2_with (first
            | go_skip
            | ((with_reducible apply open_call H); (· (repeat (first | (with_reducible exact List.mem_cons_self) | with_reducible apply List.mem_cons_of_mem))); (· exact kp); (clear H; intro _ H))
            | ((with_reducible apply num_call H); (· (repeat (first | (with_reducible exact List.mem_cons_self) | with_reducible apply List.mem_cons_of_mem))); (· exact kp); (clear H; intro _ H))
            | ((with_reducible show wpList _ _ _ (_ :: _) _ _); (with_reducible apply wpl_loadCH); (· exact cell_i64); (· rfl); (· rfl); (· exact H); (· (repeat (first | (with_reducible exact List.mem_cons_self) | with_reducible apply List.mem_cons_of_mem))); (· (with_reducible first | exact rep_g0 .. | exact rep_g1 .. | exact rep_g2 ..)); (simp only [Act.put, List.setIfInBounds_toArray, List.set_cons_zero, List.set_cons_succ]))
            | ((with_reducible show wpList _ _ _ (_ :: _) _ _); (with_reducible apply wpl_allocRH row_rep); (· rfl); (· exact H); (clear H; intro pc _ H); (simp only [Act.put, List.setIfInBounds_toArray, List.set_cons_zero, List.set_cons_succ]))
            | ((with_reducible show wpList _ _ _ (_ :: _) _ _); (with_reducible apply wpl_storeRH row_rep); (· rfl); (· rfl); (· rfl); (· with_reducible exact rep_cells ..); (· exact H); (· (repeat (first | (with_reducible exact List.mem_cons_self) | with_reducible apply List.mem_cons_of_mem))); (· (simp only [rep_sz, Nat.reduceAdd, Nat.reduceLeDiff, Nat.le_refl]; done)); (· with_reducible exact rep_splice ..); (· (repeat (first | (with_reducible exact Repl.here) | with_reducible apply Repl.there))); (clear H; intro _ H); (simp only [Act.put, List.setIfInBounds_toArray, List.set_cons_zero, List.set_cons_succ])))
          have C := tick_none p ID K to ((m : Int) + 1) wt 0 0 0 0 0 (.slice none 0 0) kp (H.pull (.there .here))
          clear H
          refine C.mono ?_
          clear C
          rintro e w10 ⟨rfl, H⟩
          go_wp2_with fail
          go_roundw
          case rel => exact ⟨m + 1, to, wt, by omega, by go_num, by omega, by omega, by have := HWT.out; omega, by have := HWT.out; omega, by
            have H1 := (((((H.drop (.there .here)).drop (.there .here)).drop (.there .here)).drop (.there .here)).drop (.there .here)).drop (.there .here)
            have H2 := H1.drop (.there .here)
            exact H2⟩
          case measure => simp [intOf]; omega
    · obtain rfl : m = 3 := by omega
      go_wp2_with fail
      have C := lives27_H H'
      clear H'
      refine C.mono ?_
      clear C
      rintro e w2 ⟨rfl, H⟩
      go_wp2_with fail
      go_ret
      exact ⟨rfl, H.low⟩
end Go.Proofs.Ytjipelhcgglhhaa
