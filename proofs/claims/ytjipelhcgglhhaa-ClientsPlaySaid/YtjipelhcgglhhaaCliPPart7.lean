/- Part 7 of what ProofClientsPlay stands on: CliTake2, CliRefused, Lives27, HeapClear. -/
import Derived.Test.YtjipelhcgglhhaaCliPPart6
/- clients.Client's Take, what was left: an error, the leader, a reply with gots. -/
namespace Go.Proofs.Ytjipelhcgglhhaa
open Go.RowKit
set_option linter.unusedSimpArgs false
set_option linter.unusedVariables false
section
variable {W w : World} {l : List Thing}
set_option maxRecDepth 100000
set_option maxHeartbeats 1000000
theorem take_other (p : Nat) (id n to num waits k0 g0 t0 c0 n0 : Int) (s0 : Value) (frm term index mark commit : Int) (yes : Bool) (entries data : Value) (steps : Value) (err rerr rat : Int) (got : Value)
    (hn : decide (0 < n) = true) (hn7 : n ≤ 7) (hid : 0 ≤ id ∧ id ≤ 8) (hf : 0 ≤ frm ∧ frm ≤ 255) (e6 : decide (frm < 1) = false) (e7 : decide (n < frm) = false) (e8 : (err == 0) = false) (e9 : (err == 16) = false) (H : Heap W (Cli p id n to num waits k0 g0 t0 c0 n0 s0 true :: l) w) :
    Calls Try.prog 9 #[.pointer (some ⟨p, 0, none⟩), .agg (letg 7 frm (100 + id) term index mark commit yes entries data id num steps err rerr rat got)] w fun e w' =>
      e = .returned (.tuple #[.agg (rep 0 0 (.slice none 0 0)), .bool false, .slice none 0 0]) ∧ Heap W (Cli p id n to num waits k0 g0 t0 c0 n0 s0 true :: l) w' := by
  have hw : IntKind.u8.wrap (100 + id) = 100 + id := IntWalk.u8_in _ (by omega)
  have hw1 : 0 ≤ 100 + id := by omega
  have hw2 : 100 + id ≤ 255 := by omega
  have f0 : 0 ≤ frm := by omega
  have f1 : frm ≤ 255 := by omega
  have hw4 : IntKind.u64.wrap n = n := IntWalk.u64_in _ (by have := of_decide_eq_true hn; omega)
  have hw5 : IntKind.u64.wrap frm = frm := IntWalk.u64_in _ (by omega)
  clear hid hf hn7
  unfold Cli at *
  go_enter Try.func9, Try.ntmps9
  go_wp2_with (first
    | go_skip | ((with_reducible show wpList _ _ _ (_ :: _) _ _); (with_reducible apply wpl_boxRH); (· rfl); (· rfl); (· exact H); (clear H; intro px _ H); (simp only [Act.put, List.setIfInBounds_toArray, List.set_cons_zero, List.set_cons_succ]))
    | ((with_reducible show wpList _ _ _ (_ :: _) _ _); (with_reducible apply wpl_boxPH); (· rfl); (· rfl); (· exact H); (clear H; intro py _ H); (simp only [Act.put, List.setIfInBounds_toArray, List.set_cons_zero, List.set_cons_succ]))
    | ((with_reducible show wpList _ _ _ (_ :: _) _ _); (with_reducible apply wpl_allocRH row_rep); (· rfl); (· exact H); (clear H; intro pz _ H); (simp only [Act.put, List.setIfInBounds_toArray, List.set_cons_zero, List.set_cons_succ])))
  change Heap _ (_ :: _ :: Cel py (one _) _ :: _) _ at H
  refine wp_region_H H (by kernel_rfl) (by kernel_rfl) ?_
  repeat (first | go_big_quiet_skip | ((with_reducible apply wpQ_loadCH); (· first | exact cell_b8 | exact cell_u64 | exact cell_i64 | exact cell_kind | exact cell_pcli); (· rfl); (· rfl); (· (repeat (first | (with_reducible exact List.mem_cons_self) | with_reducible apply List.mem_cons_of_mem))); (· (with_reducible first | exact cli_g0 .. | exact cli_g1 .. | exact cli_g2 .. | exact cli_g3 .. | exact cli_g4 .. | exact cli_g5 .. | exact cli_g6 .. | exact cli_g7 .. | exact cli_g8 .. | exact cli_g9 .. | exact cli_g10 .. | exact cli_g11 .. | exact cli_g12 .. | exact cli_g13 .. | exact cli_g14 .. | exact cli_g15 .. | exact cli_g16 .. | exact cli_g17 .. | exact cli_g18 .. | exact cli_g19 .. | exact cli_g20 .. | exact cli_g21 .. | exact cli_g22 .. | exact letg_g0 .. | exact letg_g1 .. | exact letg_g2 .. | exact letg_g3 .. | exact letg_g4 .. | exact letg_g5 .. | exact letg_g6 .. | exact letg_g7 .. | exact letg_g8 .. | exact letg_g9 .. | exact letg_g10 .. | exact letg_g11 .. | exact letg_g12 .. | exact letg_g13 .. | exact letg_g14 .. | exact letg_g15 .. | exact letg_g16 .. | exact one_g0 ..)); (simp only [Act.put, List.setIfInBounds_toArray, List.set_cons_zero, List.set_cons_succ])) | go_big_quiet_step (exact (open_H (List.mem_cons_of_mem _ (List.mem_cons_of_mem _ (List.mem_cons_of_mem _ List.mem_cons_self))) hn).quiet))
  refine wpQuiet_nil ?_
  clear H
  intro _ H
  go_wp2_with (first | go_skip | ((with_reducible show wpList _ _ _ (_ :: _) _ _); (with_reducible apply wpl_loadCH); (· first | exact cell_errno | exact cell_u64); (· rfl); (· rfl); (· exact H); (· (repeat (first | (with_reducible exact List.mem_cons_self) | with_reducible apply List.mem_cons_of_mem))); (· (with_reducible first | exact letg_g0 .. | exact letg_g1 .. | exact letg_g2 .. | exact letg_g3 .. | exact letg_g4 .. | exact letg_g5 .. | exact letg_g6 .. | exact letg_g7 .. | exact letg_g8 .. | exact letg_g9 .. | exact letg_g10 .. | exact letg_g11 .. | exact letg_g12 .. | exact letg_g13 .. | exact letg_g14 .. | exact letg_g15 .. | exact letg_g16 ..)); (simp only [Act.put, List.setIfInBounds_toArray, List.set_cons_zero, List.set_cons_succ])) | ((with_reducible show wpList _ _ _ (_ :: _) _ _); (with_reducible apply wpl_loadRH row_rep); (· rfl); (· rfl); (· exact H); (· (repeat (first | (with_reducible exact List.mem_cons_self) | with_reducible apply List.mem_cons_of_mem))); (· (simp only [rep_sz, Nat.reduceAdd, Nat.reduceLeDiff, Nat.le_refl]; done)); (· with_reducible exact rep_all ..); (simp only [Act.put, List.setIfInBounds_toArray, List.set_cons_zero, List.set_cons_succ])) | ((with_reducible show wpList _ _ _ (_ :: _) _ _); (with_reducible apply wpl_storeRH row_rep); (· rfl); (· rfl); (· rfl); (· with_reducible exact rep_cells ..); (· exact H); (· (repeat (first | (with_reducible exact List.mem_cons_self) | with_reducible apply List.mem_cons_of_mem))); (· (simp only [rep_sz, Nat.reduceAdd, Nat.reduceLeDiff, Nat.le_refl]; done)); (· with_reducible exact rep_splice ..); (· (repeat (first | (with_reducible exact Repl.here) | with_reducible apply Repl.there))); (clear H; intro _ H); (simp only [Act.put, List.setIfInBounds_toArray, List.set_cons_zero, List.set_cons_succ])))
  exact ret_row3H row_rep rfl rfl rfl H List.mem_cons_self rfl rfl rfl ⟨rfl, H.tail.tail.tail⟩
theorem take_zed (p : Nat) (id n to num waits k0 g0 t0 c0 n0 : Int) (s0 : Value) (frm term index mark commit : Int) (yes : Bool) (entries data : Value) (steps : Value) (err rerr rat : Int) (got : Value)
    (hn : decide (0 < n) = true) (hn7 : n ≤ 7) (hid : 0 ≤ id ∧ id ≤ 8) (hf : 0 ≤ frm ∧ frm ≤ 255) (e6 : decide (frm < 1) = false) (e7 : decide (n < frm) = false) (e8 : (err == 0) = false) (e9 : (err == 16) = true) (e10 : decide (1 ≤ index) = false) (H : Heap W (Cli p id n to num waits k0 g0 t0 c0 n0 s0 true :: l) w) :
    Calls Try.prog 9 #[.pointer (some ⟨p, 0, none⟩), .agg (letg 7 frm (100 + id) term index mark commit yes entries data id num steps err rerr rat got)] w fun e w' =>
      e = .returned (.tuple #[.agg (rep 0 0 (.slice none 0 0)), .bool false, .slice none 0 0]) ∧ Heap W (Cli p id n to num waits k0 g0 t0 c0 n0 s0 true :: l) w' := by
  have hw : IntKind.u8.wrap (100 + id) = 100 + id := IntWalk.u8_in _ (by omega)
  have hw1 : 0 ≤ 100 + id := by omega
  have hw2 : 100 + id ≤ 255 := by omega
  have f0 : 0 ≤ frm := by omega
  have f1 : frm ≤ 255 := by omega
  have hw4 : IntKind.u64.wrap n = n := IntWalk.u64_in _ (by have := of_decide_eq_true hn; omega)
  have hw5 : IntKind.u64.wrap frm = frm := IntWalk.u64_in _ (by omega)
  clear hid hf hn7
  unfold Cli at *
  go_enter Try.func9, Try.ntmps9
  go_wp2_with (first
    | go_skip | ((with_reducible show wpList _ _ _ (_ :: _) _ _); (with_reducible apply wpl_boxRH); (· rfl); (· rfl); (· exact H); (clear H; intro px _ H); (simp only [Act.put, List.setIfInBounds_toArray, List.set_cons_zero, List.set_cons_succ]))
    | ((with_reducible show wpList _ _ _ (_ :: _) _ _); (with_reducible apply wpl_boxPH); (· rfl); (· rfl); (· exact H); (clear H; intro py _ H); (simp only [Act.put, List.setIfInBounds_toArray, List.set_cons_zero, List.set_cons_succ]))
    | ((with_reducible show wpList _ _ _ (_ :: _) _ _); (with_reducible apply wpl_allocRH row_rep); (· rfl); (· exact H); (clear H; intro pz _ H); (simp only [Act.put, List.setIfInBounds_toArray, List.set_cons_zero, List.set_cons_succ])))
  change Heap _ (_ :: _ :: Cel py (one _) _ :: _) _ at H
  refine wp_region_H H (by kernel_rfl) (by kernel_rfl) ?_
  repeat (first | go_big_quiet_skip | ((with_reducible apply wpQ_loadCH); (· first | exact cell_b8 | exact cell_u64 | exact cell_i64 | exact cell_kind | exact cell_pcli); (· rfl); (· rfl); (· (repeat (first | (with_reducible exact List.mem_cons_self) | with_reducible apply List.mem_cons_of_mem))); (· (with_reducible first | exact cli_g0 .. | exact cli_g1 .. | exact cli_g2 .. | exact cli_g3 .. | exact cli_g4 .. | exact cli_g5 .. | exact cli_g6 .. | exact cli_g7 .. | exact cli_g8 .. | exact cli_g9 .. | exact cli_g10 .. | exact cli_g11 .. | exact cli_g12 .. | exact cli_g13 .. | exact cli_g14 .. | exact cli_g15 .. | exact cli_g16 .. | exact cli_g17 .. | exact cli_g18 .. | exact cli_g19 .. | exact cli_g20 .. | exact cli_g21 .. | exact cli_g22 .. | exact letg_g0 .. | exact letg_g1 .. | exact letg_g2 .. | exact letg_g3 .. | exact letg_g4 .. | exact letg_g5 .. | exact letg_g6 .. | exact letg_g7 .. | exact letg_g8 .. | exact letg_g9 .. | exact letg_g10 .. | exact letg_g11 .. | exact letg_g12 .. | exact letg_g13 .. | exact letg_g14 .. | exact letg_g15 .. | exact letg_g16 .. | exact one_g0 ..)); (simp only [Act.put, List.setIfInBounds_toArray, List.set_cons_zero, List.set_cons_succ])) | go_big_quiet_step (exact (open_H (List.mem_cons_of_mem _ (List.mem_cons_of_mem _ (List.mem_cons_of_mem _ List.mem_cons_self))) hn).quiet))
  refine wpQuiet_nil ?_
  clear H
  intro _ H
  go_wp2_with (first | go_skip | ((with_reducible show wpList _ _ _ (_ :: _) _ _); (with_reducible apply wpl_loadCH); (· first | exact cell_errno | exact cell_u64); (· rfl); (· rfl); (· exact H); (· (repeat (first | (with_reducible exact List.mem_cons_self) | with_reducible apply List.mem_cons_of_mem))); (· (with_reducible first | exact letg_g0 .. | exact letg_g1 .. | exact letg_g2 .. | exact letg_g3 .. | exact letg_g4 .. | exact letg_g5 .. | exact letg_g6 .. | exact letg_g7 .. | exact letg_g8 .. | exact letg_g9 .. | exact letg_g10 .. | exact letg_g11 .. | exact letg_g12 .. | exact letg_g13 .. | exact letg_g14 .. | exact letg_g15 .. | exact letg_g16 ..)); (simp only [Act.put, List.setIfInBounds_toArray, List.set_cons_zero, List.set_cons_succ])))
  refine wp_region_H H (by kernel_rfl) (by kernel_rfl) ?_
  repeat (first | go_big_quiet_skip | ((with_reducible apply wpQ_loadCH); (· first | exact cell_b8 | exact cell_u64 | exact cell_i64 | exact cell_errno | exact cell_pcli); (· rfl); (· rfl); (· (repeat (first | (with_reducible exact List.mem_cons_self) | with_reducible apply List.mem_cons_of_mem))); (· (with_reducible first | exact cli_g0 .. | exact cli_g1 .. | exact cli_g2 .. | exact cli_g3 .. | exact cli_g4 .. | exact cli_g5 .. | exact cli_g6 .. | exact cli_g7 .. | exact cli_g8 .. | exact cli_g9 .. | exact cli_g10 .. | exact cli_g11 .. | exact cli_g12 .. | exact cli_g13 .. | exact cli_g14 .. | exact cli_g15 .. | exact cli_g16 .. | exact cli_g17 .. | exact cli_g18 .. | exact cli_g19 .. | exact cli_g20 .. | exact cli_g21 .. | exact cli_g22 .. | exact letg_g0 .. | exact letg_g1 .. | exact letg_g2 .. | exact letg_g3 .. | exact letg_g4 .. | exact letg_g5 .. | exact letg_g6 .. | exact letg_g7 .. | exact letg_g8 .. | exact letg_g9 .. | exact letg_g10 .. | exact letg_g11 .. | exact letg_g12 .. | exact letg_g13 .. | exact letg_g14 .. | exact letg_g15 .. | exact letg_g16 .. | exact one_g0 ..)); (simp only [Act.put, List.setIfInBounds_toArray, List.set_cons_zero, List.set_cons_succ])) | go_big_quiet_step (fail))
  refine wpQuiet_nil ?_
  clear H
  intro _ H
  go_wp2_with (first | go_skip | ((with_reducible show wpList _ _ _ (_ :: _) _ _); (with_reducible apply wpl_loadRH row_rep); (· rfl); (· rfl); (· exact H); (· (repeat (first | (with_reducible exact List.mem_cons_self) | with_reducible apply List.mem_cons_of_mem))); (· (simp only [rep_sz, Nat.reduceAdd, Nat.reduceLeDiff, Nat.le_refl]; done)); (· with_reducible exact rep_all ..); (simp only [Act.put, List.setIfInBounds_toArray, List.set_cons_zero, List.set_cons_succ])) | ((with_reducible show wpList _ _ _ (_ :: _) _ _); (with_reducible apply wpl_storeRH row_rep); (· rfl); (· rfl); (· rfl); (· with_reducible exact rep_cells ..); (· exact H); (· (repeat (first | (with_reducible exact List.mem_cons_self) | with_reducible apply List.mem_cons_of_mem))); (· (simp only [rep_sz, Nat.reduceAdd, Nat.reduceLeDiff, Nat.le_refl]; done)); (· with_reducible exact rep_splice ..); (· (repeat (first | (with_reducible exact Repl.here) | with_reducible apply Repl.there))); (clear H; intro _ H); (simp only [Act.put, List.setIfInBounds_toArray, List.set_cons_zero, List.set_cons_succ])))
  exact ret_row3H row_rep rfl rfl rfl H List.mem_cons_self rfl rfl rfl ⟨rfl, H.tail.tail.tail⟩
theorem take_far (p : Nat) (id n to num waits k0 g0 t0 c0 n0 : Int) (s0 : Value) (frm term index mark commit : Int) (yes : Bool) (entries data : Value) (steps : Value) (err rerr rat : Int) (got : Value)
    (hn : decide (0 < n) = true) (hn7 : n ≤ 7) (hid : 0 ≤ id ∧ id ≤ 8) (hf : 0 ≤ frm ∧ frm ≤ 255) (e6 : decide (frm < 1) = false) (e7 : decide (n < frm) = false) (e8 : (err == 0) = false) (e9 : (err == 16) = true) (e10 : decide (1 ≤ index) = true) (e11 : decide (index ≤ n) = false) (H : Heap W (Cli p id n to num waits k0 g0 t0 c0 n0 s0 true :: l) w) :
    Calls Try.prog 9 #[.pointer (some ⟨p, 0, none⟩), .agg (letg 7 frm (100 + id) term index mark commit yes entries data id num steps err rerr rat got)] w fun e w' =>
      e = .returned (.tuple #[.agg (rep 0 0 (.slice none 0 0)), .bool false, .slice none 0 0]) ∧ Heap W (Cli p id n to num waits k0 g0 t0 c0 n0 s0 true :: l) w' := by
  have hw : IntKind.u8.wrap (100 + id) = 100 + id := IntWalk.u8_in _ (by omega)
  have hw1 : 0 ≤ 100 + id := by omega
  have hw2 : 100 + id ≤ 255 := by omega
  have f0 : 0 ≤ frm := by omega
  have f1 : frm ≤ 255 := by omega
  have hw4 : IntKind.u64.wrap n = n := IntWalk.u64_in _ (by have := of_decide_eq_true hn; omega)
  have hw5 : IntKind.u64.wrap frm = frm := IntWalk.u64_in _ (by omega)
  clear hid hf hn7
  unfold Cli at *
  go_enter Try.func9, Try.ntmps9
  go_wp2_with (first
    | go_skip | ((with_reducible show wpList _ _ _ (_ :: _) _ _); (with_reducible apply wpl_boxRH); (· rfl); (· rfl); (· exact H); (clear H; intro px _ H); (simp only [Act.put, List.setIfInBounds_toArray, List.set_cons_zero, List.set_cons_succ]))
    | ((with_reducible show wpList _ _ _ (_ :: _) _ _); (with_reducible apply wpl_boxPH); (· rfl); (· rfl); (· exact H); (clear H; intro py _ H); (simp only [Act.put, List.setIfInBounds_toArray, List.set_cons_zero, List.set_cons_succ]))
    | ((with_reducible show wpList _ _ _ (_ :: _) _ _); (with_reducible apply wpl_allocRH row_rep); (· rfl); (· exact H); (clear H; intro pz _ H); (simp only [Act.put, List.setIfInBounds_toArray, List.set_cons_zero, List.set_cons_succ])))
  change Heap _ (_ :: _ :: Cel py (one _) _ :: _) _ at H
  refine wp_region_H H (by kernel_rfl) (by kernel_rfl) ?_
  repeat (first | go_big_quiet_skip | ((with_reducible apply wpQ_loadCH); (· first | exact cell_b8 | exact cell_u64 | exact cell_i64 | exact cell_kind | exact cell_pcli); (· rfl); (· rfl); (· (repeat (first | (with_reducible exact List.mem_cons_self) | with_reducible apply List.mem_cons_of_mem))); (· (with_reducible first | exact cli_g0 .. | exact cli_g1 .. | exact cli_g2 .. | exact cli_g3 .. | exact cli_g4 .. | exact cli_g5 .. | exact cli_g6 .. | exact cli_g7 .. | exact cli_g8 .. | exact cli_g9 .. | exact cli_g10 .. | exact cli_g11 .. | exact cli_g12 .. | exact cli_g13 .. | exact cli_g14 .. | exact cli_g15 .. | exact cli_g16 .. | exact cli_g17 .. | exact cli_g18 .. | exact cli_g19 .. | exact cli_g20 .. | exact cli_g21 .. | exact cli_g22 .. | exact letg_g0 .. | exact letg_g1 .. | exact letg_g2 .. | exact letg_g3 .. | exact letg_g4 .. | exact letg_g5 .. | exact letg_g6 .. | exact letg_g7 .. | exact letg_g8 .. | exact letg_g9 .. | exact letg_g10 .. | exact letg_g11 .. | exact letg_g12 .. | exact letg_g13 .. | exact letg_g14 .. | exact letg_g15 .. | exact letg_g16 .. | exact one_g0 ..)); (simp only [Act.put, List.setIfInBounds_toArray, List.set_cons_zero, List.set_cons_succ])) | go_big_quiet_step (exact (open_H (List.mem_cons_of_mem _ (List.mem_cons_of_mem _ (List.mem_cons_of_mem _ List.mem_cons_self))) hn).quiet))
  refine wpQuiet_nil ?_
  clear H
  intro _ H
  go_wp2_with (first | go_skip | ((with_reducible show wpList _ _ _ (_ :: _) _ _); (with_reducible apply wpl_loadCH); (· first | exact cell_errno | exact cell_u64); (· rfl); (· rfl); (· exact H); (· (repeat (first | (with_reducible exact List.mem_cons_self) | with_reducible apply List.mem_cons_of_mem))); (· (with_reducible first | exact letg_g0 .. | exact letg_g1 .. | exact letg_g2 .. | exact letg_g3 .. | exact letg_g4 .. | exact letg_g5 .. | exact letg_g6 .. | exact letg_g7 .. | exact letg_g8 .. | exact letg_g9 .. | exact letg_g10 .. | exact letg_g11 .. | exact letg_g12 .. | exact letg_g13 .. | exact letg_g14 .. | exact letg_g15 .. | exact letg_g16 ..)); (simp only [Act.put, List.setIfInBounds_toArray, List.set_cons_zero, List.set_cons_succ])))
  refine wp_region_H H (by kernel_rfl) (by kernel_rfl) ?_
  repeat (first | go_big_quiet_skip | ((with_reducible apply wpQ_loadCH); (· first | exact cell_b8 | exact cell_u64 | exact cell_i64 | exact cell_errno | exact cell_pcli); (· rfl); (· rfl); (· (repeat (first | (with_reducible exact List.mem_cons_self) | with_reducible apply List.mem_cons_of_mem))); (· (with_reducible first | exact cli_g0 .. | exact cli_g1 .. | exact cli_g2 .. | exact cli_g3 .. | exact cli_g4 .. | exact cli_g5 .. | exact cli_g6 .. | exact cli_g7 .. | exact cli_g8 .. | exact cli_g9 .. | exact cli_g10 .. | exact cli_g11 .. | exact cli_g12 .. | exact cli_g13 .. | exact cli_g14 .. | exact cli_g15 .. | exact cli_g16 .. | exact cli_g17 .. | exact cli_g18 .. | exact cli_g19 .. | exact cli_g20 .. | exact cli_g21 .. | exact cli_g22 .. | exact letg_g0 .. | exact letg_g1 .. | exact letg_g2 .. | exact letg_g3 .. | exact letg_g4 .. | exact letg_g5 .. | exact letg_g6 .. | exact letg_g7 .. | exact letg_g8 .. | exact letg_g9 .. | exact letg_g10 .. | exact letg_g11 .. | exact letg_g12 .. | exact letg_g13 .. | exact letg_g14 .. | exact letg_g15 .. | exact letg_g16 .. | exact one_g0 ..)); (simp only [Act.put, List.setIfInBounds_toArray, List.set_cons_zero, List.set_cons_succ])) | go_big_quiet_step (fail))
  refine wpQuiet_nil ?_
  clear H
  intro _ H
  go_wp2_with (first | go_skip | ((with_reducible show wpList _ _ _ (_ :: _) _ _); (with_reducible apply wpl_loadRH row_rep); (· rfl); (· rfl); (· exact H); (· (repeat (first | (with_reducible exact List.mem_cons_self) | with_reducible apply List.mem_cons_of_mem))); (· (simp only [rep_sz, Nat.reduceAdd, Nat.reduceLeDiff, Nat.le_refl]; done)); (· with_reducible exact rep_all ..); (simp only [Act.put, List.setIfInBounds_toArray, List.set_cons_zero, List.set_cons_succ])) | ((with_reducible show wpList _ _ _ (_ :: _) _ _); (with_reducible apply wpl_storeRH row_rep); (· rfl); (· rfl); (· rfl); (· with_reducible exact rep_cells ..); (· exact H); (· (repeat (first | (with_reducible exact List.mem_cons_self) | with_reducible apply List.mem_cons_of_mem))); (· (simp only [rep_sz, Nat.reduceAdd, Nat.reduceLeDiff, Nat.le_refl]; done)); (· with_reducible exact rep_splice ..); (· (repeat (first | (with_reducible exact Repl.here) | with_reducible apply Repl.there))); (clear H; intro _ H); (simp only [Act.put, List.setIfInBounds_toArray, List.set_cons_zero, List.set_cons_succ])))
  exact ret_row3H row_rep rfl rfl rfl H List.mem_cons_self rfl rfl rfl ⟨rfl, H.tail.tail.tail⟩
theorem take_self (p : Nat) (id n to num waits k0 g0 t0 c0 n0 : Int) (s0 : Value) (frm term index mark commit : Int) (yes : Bool) (entries data : Value) (steps : Value) (err rerr rat : Int) (got : Value)
    (hn : decide (0 < n) = true) (hn7 : n ≤ 7) (hid : 0 ≤ id ∧ id ≤ 8) (hf : 0 ≤ frm ∧ frm ≤ 255) (e6 : decide (frm < 1) = false) (e7 : decide (n < frm) = false) (e8 : (err == 0) = false) (e9 : (err == 16) = true) (e10 : decide (1 ≤ index) = true) (e11 : decide (index ≤ n) = true) (e12 : (index != frm) = false) (H : Heap W (Cli p id n to num waits k0 g0 t0 c0 n0 s0 true :: l) w) :
    Calls Try.prog 9 #[.pointer (some ⟨p, 0, none⟩), .agg (letg 7 frm (100 + id) term index mark commit yes entries data id num steps err rerr rat got)] w fun e w' =>
      e = .returned (.tuple #[.agg (rep 0 0 (.slice none 0 0)), .bool false, .slice none 0 0]) ∧ Heap W (Cli p id n to num waits k0 g0 t0 c0 n0 s0 true :: l) w' := by
  have hw : IntKind.u8.wrap (100 + id) = 100 + id := IntWalk.u8_in _ (by omega)
  have hw1 : 0 ≤ 100 + id := by omega
  have hw2 : 100 + id ≤ 255 := by omega
  have f0 : 0 ≤ frm := by omega
  have f1 : frm ≤ 255 := by omega
  have hw4 : IntKind.u64.wrap n = n := IntWalk.u64_in _ (by have := of_decide_eq_true hn; omega)
  have hw5 : IntKind.u64.wrap frm = frm := IntWalk.u64_in _ (by omega)
  clear hid hf hn7
  unfold Cli at *
  go_enter Try.func9, Try.ntmps9
  go_wp2_with (first
    | go_skip | ((with_reducible show wpList _ _ _ (_ :: _) _ _); (with_reducible apply wpl_boxRH); (· rfl); (· rfl); (· exact H); (clear H; intro px _ H); (simp only [Act.put, List.setIfInBounds_toArray, List.set_cons_zero, List.set_cons_succ]))
    | ((with_reducible show wpList _ _ _ (_ :: _) _ _); (with_reducible apply wpl_boxPH); (· rfl); (· rfl); (· exact H); (clear H; intro py _ H); (simp only [Act.put, List.setIfInBounds_toArray, List.set_cons_zero, List.set_cons_succ]))
    | ((with_reducible show wpList _ _ _ (_ :: _) _ _); (with_reducible apply wpl_allocRH row_rep); (· rfl); (· exact H); (clear H; intro pz _ H); (simp only [Act.put, List.setIfInBounds_toArray, List.set_cons_zero, List.set_cons_succ])))
  change Heap _ (_ :: _ :: Cel py (one _) _ :: _) _ at H
  refine wp_region_H H (by kernel_rfl) (by kernel_rfl) ?_
  repeat (first | go_big_quiet_skip | ((with_reducible apply wpQ_loadCH); (· first | exact cell_b8 | exact cell_u64 | exact cell_i64 | exact cell_kind | exact cell_pcli); (· rfl); (· rfl); (· (repeat (first | (with_reducible exact List.mem_cons_self) | with_reducible apply List.mem_cons_of_mem))); (· (with_reducible first | exact cli_g0 .. | exact cli_g1 .. | exact cli_g2 .. | exact cli_g3 .. | exact cli_g4 .. | exact cli_g5 .. | exact cli_g6 .. | exact cli_g7 .. | exact cli_g8 .. | exact cli_g9 .. | exact cli_g10 .. | exact cli_g11 .. | exact cli_g12 .. | exact cli_g13 .. | exact cli_g14 .. | exact cli_g15 .. | exact cli_g16 .. | exact cli_g17 .. | exact cli_g18 .. | exact cli_g19 .. | exact cli_g20 .. | exact cli_g21 .. | exact cli_g22 .. | exact letg_g0 .. | exact letg_g1 .. | exact letg_g2 .. | exact letg_g3 .. | exact letg_g4 .. | exact letg_g5 .. | exact letg_g6 .. | exact letg_g7 .. | exact letg_g8 .. | exact letg_g9 .. | exact letg_g10 .. | exact letg_g11 .. | exact letg_g12 .. | exact letg_g13 .. | exact letg_g14 .. | exact letg_g15 .. | exact letg_g16 .. | exact one_g0 ..)); (simp only [Act.put, List.setIfInBounds_toArray, List.set_cons_zero, List.set_cons_succ])) | go_big_quiet_step (exact (open_H (List.mem_cons_of_mem _ (List.mem_cons_of_mem _ (List.mem_cons_of_mem _ List.mem_cons_self))) hn).quiet))
  refine wpQuiet_nil ?_
  clear H
  intro _ H
  go_wp2_with (first | go_skip | ((with_reducible show wpList _ _ _ (_ :: _) _ _); (with_reducible apply wpl_loadCH); (· first | exact cell_errno | exact cell_u64); (· rfl); (· rfl); (· exact H); (· (repeat (first | (with_reducible exact List.mem_cons_self) | with_reducible apply List.mem_cons_of_mem))); (· (with_reducible first | exact letg_g0 .. | exact letg_g1 .. | exact letg_g2 .. | exact letg_g3 .. | exact letg_g4 .. | exact letg_g5 .. | exact letg_g6 .. | exact letg_g7 .. | exact letg_g8 .. | exact letg_g9 .. | exact letg_g10 .. | exact letg_g11 .. | exact letg_g12 .. | exact letg_g13 .. | exact letg_g14 .. | exact letg_g15 .. | exact letg_g16 ..)); (simp only [Act.put, List.setIfInBounds_toArray, List.set_cons_zero, List.set_cons_succ])))
  refine wp_region_H H (by kernel_rfl) (by kernel_rfl) ?_
  repeat (first | go_big_quiet_skip | ((with_reducible apply wpQ_loadCH); (· first | exact cell_b8 | exact cell_u64 | exact cell_i64 | exact cell_errno | exact cell_pcli); (· rfl); (· rfl); (· (repeat (first | (with_reducible exact List.mem_cons_self) | with_reducible apply List.mem_cons_of_mem))); (· (with_reducible first | exact cli_g0 .. | exact cli_g1 .. | exact cli_g2 .. | exact cli_g3 .. | exact cli_g4 .. | exact cli_g5 .. | exact cli_g6 .. | exact cli_g7 .. | exact cli_g8 .. | exact cli_g9 .. | exact cli_g10 .. | exact cli_g11 .. | exact cli_g12 .. | exact cli_g13 .. | exact cli_g14 .. | exact cli_g15 .. | exact cli_g16 .. | exact cli_g17 .. | exact cli_g18 .. | exact cli_g19 .. | exact cli_g20 .. | exact cli_g21 .. | exact cli_g22 .. | exact letg_g0 .. | exact letg_g1 .. | exact letg_g2 .. | exact letg_g3 .. | exact letg_g4 .. | exact letg_g5 .. | exact letg_g6 .. | exact letg_g7 .. | exact letg_g8 .. | exact letg_g9 .. | exact letg_g10 .. | exact letg_g11 .. | exact letg_g12 .. | exact letg_g13 .. | exact letg_g14 .. | exact letg_g15 .. | exact letg_g16 .. | exact one_g0 ..)); (simp only [Act.put, List.setIfInBounds_toArray, List.set_cons_zero, List.set_cons_succ])) | go_big_quiet_step (fail))
  refine wpQuiet_nil ?_
  clear H
  intro _ H
  go_wp2_with (first | go_skip | ((with_reducible show wpList _ _ _ (_ :: _) _ _); (with_reducible apply wpl_loadRH row_rep); (· rfl); (· rfl); (· exact H); (· (repeat (first | (with_reducible exact List.mem_cons_self) | with_reducible apply List.mem_cons_of_mem))); (· (simp only [rep_sz, Nat.reduceAdd, Nat.reduceLeDiff, Nat.le_refl]; done)); (· with_reducible exact rep_all ..); (simp only [Act.put, List.setIfInBounds_toArray, List.set_cons_zero, List.set_cons_succ])) | ((with_reducible show wpList _ _ _ (_ :: _) _ _); (with_reducible apply wpl_storeRH row_rep); (· rfl); (· rfl); (· rfl); (· with_reducible exact rep_cells ..); (· exact H); (· (repeat (first | (with_reducible exact List.mem_cons_self) | with_reducible apply List.mem_cons_of_mem))); (· (simp only [rep_sz, Nat.reduceAdd, Nat.reduceLeDiff, Nat.le_refl]; done)); (· with_reducible exact rep_splice ..); (· (repeat (first | (with_reducible exact Repl.here) | with_reducible apply Repl.there))); (clear H; intro _ H); (simp only [Act.put, List.setIfInBounds_toArray, List.set_cons_zero, List.set_cons_succ])))
  exact ret_row3H row_rep rfl rfl rfl H List.mem_cons_self rfl rfl rfl ⟨rfl, H.tail.tail.tail⟩
theorem take_leader (p g m c : Nat) (id n to num waits k0 g0 t0 c0 n0 : Int) (cs : List Value) (h0 : 0 < m) (hm : m ≤ 8) (hl : cs.length = m * 10) (h1 : OneCells cs) (frm term index mark commit : Int) (yes : Bool) (entries data : Value) (steps : Value) (rerr rat : Int) (got : Value)
    (hn : decide (0 < n) = true) (hn7 : n ≤ 7) (hid : 0 ≤ id ∧ id ≤ 8) (hf : 0 ≤ frm ∧ frm ≤ 255) (e6 : decide (frm < 1) = false) (e7 : decide (n < frm) = false) (e10 : decide (1 ≤ index) = true) (e11 : decide (index ≤ n) = true) (e12 : (index != frm) = true) (H : Heap W (Cli p id n to num waits k0 g0 t0 c0 n0 (.slice (some ⟨g, 0, none⟩) m c) true :: StepsT g m c cs :: l) w) :
    Calls Try.prog 9 #[.pointer (some ⟨p, 0, none⟩), .agg (letg 7 frm (100 + id) term index mark commit yes entries data id num steps 16 rerr rat got)] w fun e w' => ∃ q g' c',
      e = .returned (.tuple #[.agg (rep 0 0 (.slice none 0 0)), .bool false, .slice (some ⟨q, 0, none⟩) 1 1]) ∧
      Heap W (Cel q (lett k0 g0 index c0 n0 (.slice (some ⟨g', 0, none⟩) m m)) 36 :: StepsT g' m c' cs :: Cli p id n index num 0 k0 g0 index c0 n0 (.slice (some ⟨g, 0, none⟩) m c) true :: StepsT g m c cs :: l) w' := by
  have hw : IntKind.u8.wrap (100 + id) = 100 + id := IntWalk.u8_in _ (by omega)
  have hw1 : 0 ≤ 100 + id := by omega
  have hw2 : 100 + id ≤ 255 := by omega
  have f0 : 0 ≤ frm := by omega
  have f1 : frm ≤ 255 := by omega
  have q1 : 1 ≤ index := of_decide_eq_true e10
  have q2 : index ≤ n := of_decide_eq_true e11
  have hw3 : wrap64 index = index := by unfold wrap64; omega
  have hw4 : IntKind.u64.wrap n = n := IntWalk.u64_in _ (by have := of_decide_eq_true hn; omega)
  have hw5 : IntKind.u64.wrap frm = frm := IntWalk.u64_in _ (by omega)
  have HI := Lib.hid (And.intro hid (And.intro q1 (And.intro q2 (And.intro hn7 (And.intro h0 (And.intro hm hl))))))
  clear hid hf q1 q2 hn7 h0 hm hl
  unfold Cli at *
  go_enter Try.func9, Try.ntmps9
  go_wp2_with (first
    | go_skip | ((with_reducible show wpList _ _ _ (_ :: _) _ _); (with_reducible apply wpl_boxRH); (· rfl); (· rfl); (· exact H); (clear H; intro px _ H); (simp only [Act.put, List.setIfInBounds_toArray, List.set_cons_zero, List.set_cons_succ]))
    | ((with_reducible show wpList _ _ _ (_ :: _) _ _); (with_reducible apply wpl_boxPH); (· rfl); (· rfl); (· exact H); (clear H; intro py _ H); (simp only [Act.put, List.setIfInBounds_toArray, List.set_cons_zero, List.set_cons_succ]))
    | ((with_reducible show wpList _ _ _ (_ :: _) _ _); (with_reducible apply wpl_allocRH row_rep); (· rfl); (· exact H); (clear H; intro pz _ H); (simp only [Act.put, List.setIfInBounds_toArray, List.set_cons_zero, List.set_cons_succ])))
  change Heap _ (_ :: _ :: Cel py (one _) _ :: _) _ at H
  refine wp_region_H H (by kernel_rfl) (by kernel_rfl) ?_
  repeat (first | go_big_quiet_skip | ((with_reducible apply wpQ_loadCH); (· first | exact cell_b8 | exact cell_u64 | exact cell_i64 | exact cell_kind | exact cell_pcli); (· rfl); (· rfl); (· (repeat (first | (with_reducible exact List.mem_cons_self) | with_reducible apply List.mem_cons_of_mem))); (· (with_reducible first | exact cli_g0 .. | exact cli_g1 .. | exact cli_g2 .. | exact cli_g3 .. | exact cli_g4 .. | exact cli_g5 .. | exact cli_g6 .. | exact cli_g7 .. | exact cli_g8 .. | exact cli_g9 .. | exact cli_g10 .. | exact cli_g11 .. | exact cli_g12 .. | exact cli_g13 .. | exact cli_g14 .. | exact cli_g15 .. | exact cli_g16 .. | exact cli_g17 .. | exact cli_g18 .. | exact cli_g19 .. | exact cli_g20 .. | exact cli_g21 .. | exact cli_g22 .. | exact letg_g0 .. | exact letg_g1 .. | exact letg_g2 .. | exact letg_g3 .. | exact letg_g4 .. | exact letg_g5 .. | exact letg_g6 .. | exact letg_g7 .. | exact letg_g8 .. | exact letg_g9 .. | exact letg_g10 .. | exact letg_g11 .. | exact letg_g12 .. | exact letg_g13 .. | exact letg_g14 .. | exact letg_g15 .. | exact letg_g16 .. | exact one_g0 ..)); (simp only [Act.put, List.setIfInBounds_toArray, List.set_cons_zero, List.set_cons_succ])) | go_big_quiet_step (exact (open_H (List.mem_cons_of_mem _ (List.mem_cons_of_mem _ (List.mem_cons_of_mem _ List.mem_cons_self))) hn).quiet))
  refine wpQuiet_nil ?_
  clear H
  intro _ H
  go_wp2_with (first | go_skip | ((with_reducible show wpList _ _ _ (_ :: _) _ _); (with_reducible apply wpl_loadCH); (· first | exact cell_errno | exact cell_u64); (· rfl); (· rfl); (· exact H); (· (repeat (first | (with_reducible exact List.mem_cons_self) | with_reducible apply List.mem_cons_of_mem))); (· (with_reducible first | exact letg_g0 .. | exact letg_g1 .. | exact letg_g2 .. | exact letg_g3 .. | exact letg_g4 .. | exact letg_g5 .. | exact letg_g6 .. | exact letg_g7 .. | exact letg_g8 .. | exact letg_g9 .. | exact letg_g10 .. | exact letg_g11 .. | exact letg_g12 .. | exact letg_g13 .. | exact letg_g14 .. | exact letg_g15 .. | exact letg_g16 ..)); (simp only [Act.put, List.setIfInBounds_toArray, List.set_cons_zero, List.set_cons_succ])))
  refine wp_region_H H (by kernel_rfl) (by kernel_rfl) ?_
  repeat (first | go_big_quiet_skip | ((with_reducible apply wpQ_loadCH); (· first | exact cell_b8 | exact cell_u64 | exact cell_i64 | exact cell_errno | exact cell_pcli); (· rfl); (· rfl); (· (repeat (first | (with_reducible exact List.mem_cons_self) | with_reducible apply List.mem_cons_of_mem))); (· (with_reducible first | exact cli_g0 .. | exact cli_g1 .. | exact cli_g2 .. | exact cli_g3 .. | exact cli_g4 .. | exact cli_g5 .. | exact cli_g6 .. | exact cli_g7 .. | exact cli_g8 .. | exact cli_g9 .. | exact cli_g10 .. | exact cli_g11 .. | exact cli_g12 .. | exact cli_g13 .. | exact cli_g14 .. | exact cli_g15 .. | exact cli_g16 .. | exact cli_g17 .. | exact cli_g18 .. | exact cli_g19 .. | exact cli_g20 .. | exact cli_g21 .. | exact cli_g22 .. | exact letg_g0 .. | exact letg_g1 .. | exact letg_g2 .. | exact letg_g3 .. | exact letg_g4 .. | exact letg_g5 .. | exact letg_g6 .. | exact letg_g7 .. | exact letg_g8 .. | exact letg_g9 .. | exact letg_g10 .. | exact letg_g11 .. | exact letg_g12 .. | exact letg_g13 .. | exact letg_g14 .. | exact letg_g15 .. | exact letg_g16 .. | exact one_g0 ..)); (simp only [Act.put, List.setIfInBounds_toArray, List.set_cons_zero, List.set_cons_succ])) | go_big_quiet_step (fail))
  refine wpQuiet_nil ?_
  clear H
  intro _ H
  go_wp2_with (first | go_skip | ((with_reducible show wpList _ _ _ (_ :: _) _ _); (with_reducible apply wpl_loadCH); (· first | exact cell_errno | exact cell_u64 | exact cell_pcli); (· rfl); (· rfl); (· exact H); (· (repeat (first | (with_reducible exact List.mem_cons_self) | with_reducible apply List.mem_cons_of_mem))); (· (with_reducible first | exact letg_g0 .. | exact letg_g1 .. | exact letg_g2 .. | exact letg_g3 .. | exact letg_g4 .. | exact letg_g5 .. | exact letg_g6 .. | exact letg_g7 .. | exact letg_g8 .. | exact letg_g9 .. | exact letg_g10 .. | exact letg_g11 .. | exact letg_g12 .. | exact letg_g13 .. | exact letg_g14 .. | exact letg_g15 .. | exact letg_g16 .. | exact one_g0 ..)); (simp only [Act.put, List.setIfInBounds_toArray, List.set_cons_zero, List.set_cons_succ])) | (first | ((with_reducible show wpList _ _ _ (_ :: _) _ _); (with_reducible apply wpl_storeIH); (· exact cell_i64); (· rfl); (· rfl); (· rfl); (· exact H); (· (repeat (first | (with_reducible exact List.mem_cons_self) | with_reducible apply List.mem_cons_of_mem))); (· (simp only [cli_sz, Nat.reduceLT]; done)); (· (with_reducible first | exact cli_s0 .. | exact cli_s1 .. | exact cli_s2 .. | exact cli_s3 .. | exact cli_s4 .. | exact cli_s5 .. | exact cli_s6 .. | exact cli_s7 .. | exact cli_s15 .. | exact cli_s16 .. | exact cli_s17 .. | exact cli_s22 ..)); (· (repeat (first | (with_reducible exact Repl.here) | with_reducible apply Repl.there))); (clear H; intro _ H); (simp only [Act.put, List.setIfInBounds_toArray, List.set_cons_zero, List.set_cons_succ])) | ((with_reducible show wpList _ _ _ (_ :: _) _ _); (with_reducible apply wpl_storeBH); (· exact cell_i64); (· rfl); (· rfl); (· rfl); (· exact H); (· (repeat (first | (with_reducible exact List.mem_cons_self) | with_reducible apply List.mem_cons_of_mem))); (· (simp only [cli_sz, Nat.reduceLT]; done)); (· (with_reducible first | exact cli_s0 .. | exact cli_s1 .. | exact cli_s2 .. | exact cli_s3 .. | exact cli_s4 .. | exact cli_s5 .. | exact cli_s6 .. | exact cli_s7 .. | exact cli_s15 .. | exact cli_s16 .. | exact cli_s17 .. | exact cli_s22 ..)); (· (repeat (first | (with_reducible exact Repl.here) | with_reducible apply Repl.there))); (clear H; intro _ H); (simp only [Act.put, List.setIfInBounds_toArray, List.set_cons_zero, List.set_cons_succ])) | ((with_reducible show wpList _ _ _ (_ :: _) _ _); (with_reducible apply wpl_storeSH); (· exact cell_i64); (· rfl); (· rfl); (· rfl); (· exact H); (· (repeat (first | (with_reducible exact List.mem_cons_self) | with_reducible apply List.mem_cons_of_mem))); (· (simp only [cli_sz, Nat.reduceLT]; done)); (· (with_reducible first | exact cli_s0 .. | exact cli_s1 .. | exact cli_s2 .. | exact cli_s3 .. | exact cli_s4 .. | exact cli_s5 .. | exact cli_s6 .. | exact cli_s7 .. | exact cli_s15 .. | exact cli_s16 .. | exact cli_s17 .. | exact cli_s22 ..)); (· (repeat (first | (with_reducible exact Repl.here) | with_reducible apply Repl.there))); (clear H; intro _ H); (simp only [Act.put, List.setIfInBounds_toArray, List.set_cons_zero, List.set_cons_succ])) | ((with_reducible show wpList _ _ _ (_ :: _) _ _); (with_reducible apply wpl_storePH); (· exact cell_i64); (· rfl); (· rfl); (· rfl); (· exact H); (· (repeat (first | (with_reducible exact List.mem_cons_self) | with_reducible apply List.mem_cons_of_mem))); (· (simp only [cli_sz, Nat.reduceLT]; done)); (· (with_reducible first | exact cli_s0 .. | exact cli_s1 .. | exact cli_s2 .. | exact cli_s3 .. | exact cli_s4 .. | exact cli_s5 .. | exact cli_s6 .. | exact cli_s7 .. | exact cli_s15 .. | exact cli_s16 .. | exact cli_s17 .. | exact cli_s22 ..)); (· (repeat (first | (with_reducible exact Repl.here) | with_reducible apply Repl.there))); (clear H; intro _ H); (simp only [Act.put, List.setIfInBounds_toArray, List.set_cons_zero, List.set_cons_succ]))))
  rw [hw3] at H
  refine wp_region_K [2, 3] [0, 1, 2, 3, 4, 5] [Cel pz (rep 0 0 (.slice none 0 0)) 34, Cel py (one (.pointer (some ⟨p, 0, none⟩))) 46] H (by rintro t ht; simp only [List.mem_cons, List.not_mem_nil, or_false] at ht; rcases ht with rfl | rfl <;> (repeat (first | (with_reducible exact List.mem_cons_self) | with_reducible apply List.mem_cons_of_mem))) (by kernel_rfl) (by kernel_rfl) ?_
  iterate 2 (apply wpK_step; (· rfl); (· rfl); (· rfl); (· exact Nat.le_of_ble_eq_true rfl); (· intro l0 hs0 w0 H0; (first | go_big_quiet_skip | (first | ((with_reducible apply wpQ_loadRH row_rep); (· rfl); (· rfl); (· (refine hs0 _ ?_; (repeat (first | (with_reducible exact List.mem_cons_self) | with_reducible apply List.mem_cons_of_mem)))); (· (simp only [rep_sz, Nat.reduceAdd, Nat.reduceLeDiff, Nat.le_refl]; done)); (· with_reducible exact rep_all ..); (simp only [Act.put, List.setIfInBounds_toArray, List.set_cons_zero, List.set_cons_succ])) | ((with_reducible apply wpQ_loadCH); (· exact cell_pcli); (· rfl); (· rfl); (· (refine hs0 _ ?_; (repeat (first | (with_reducible exact List.mem_cons_self) | with_reducible apply List.mem_cons_of_mem)))); (· (with_reducible first | exact one_g0 ..)); (simp only [Act.put, List.setIfInBounds_toArray, List.set_cons_zero, List.set_cons_succ]))) | go_big_quiet_step (fail)); (refine wpQuiet_nil ?_); (simp only [Array.getD_eq_getD_getElem?, List.getElem?_toArray, List.getElem?_cons_succ, List.getElem?_cons_zero, Option.getD_some]; rfl)); (simp only [Act.put, List.setIfInBounds_toArray, List.set_cons_zero, List.set_cons_succ]))
  refine wpK_call (f := 28) (argl := [.pointer (some ⟨p, 0, none⟩)]) rfl rfl rfl Try.call28 rfl ?_
  intro w0 H0
  refine (calls_H p g m c id n index num waits k0 g0 t0 c0 n0 cs (H0.top2 (.there (.there (.there .here))) (.there (.there (.there .here)))) HI.out.2.2.2.2.1 (by have := HI.out; omega) HI.out.2.2.2.2.2.2 h1 (by have := HI.out; omega)).mono ?_
  clear H0
  rintro e w1 ⟨q, g', c', rfl, H1⟩
  refine ⟨_, _, rfl, H1, _, Keeps.refl _, (by rintro t ht; simp only [List.mem_cons, List.not_mem_nil, or_false] at ht; rcases ht with rfl | rfl <;> (repeat (first | (with_reducible exact List.mem_cons_self) | with_reducible apply List.mem_cons_of_mem))), ?_⟩
  clear H1
  (simp only [Act.put, List.setIfInBounds_toArray, List.set_cons_zero, List.set_cons_succ])
  refine wpK_storeR row_rep rfl rfl rfl rfl rfl (rep_cells ..) (List.mem_cons_of_mem _ (List.mem_cons_of_mem _ (List.mem_cons_of_mem _ (List.mem_cons_of_mem _ List.mem_cons_self)))) (by rw [rep_sz]; decide) (rep_splice ..) (.there (.there (.there (.there .here)))) (Keeps.refl _) (by rintro t ht; simp only [List.mem_cons, List.not_mem_nil, or_false] at ht; rcases ht with rfl | rfl <;> (repeat (first | (with_reducible exact List.mem_cons_self) | with_reducible apply List.mem_cons_of_mem))) ?_
  (simp only [Act.put, List.setIfInBounds_toArray, List.set_cons_zero, List.set_cons_succ])
  iterate 2 (apply wpK_step; (· rfl); (· rfl); (· rfl); (· exact Nat.le_of_ble_eq_true rfl); (· intro l0 hs0 w0 H0; (first | go_big_quiet_skip | fail | go_big_quiet_step (fail)); (refine wpQuiet_nil ?_); (simp only [Array.getD_eq_getD_getElem?, List.getElem?_toArray, List.getElem?_cons_succ, List.getElem?_cons_zero, Option.getD_some]; rfl)); (simp only [Act.put, List.setIfInBounds_toArray, List.set_cons_zero, List.set_cons_succ]))
  (refine wpK_nil ?_; clear H; intro _ H)
  go_wp2_with (go_skip)
  exact ret_row3H row_rep rfl rfl rfl H (List.mem_cons_of_mem _ (List.mem_cons_of_mem _ (List.mem_cons_of_mem _ (List.mem_cons_of_mem _ List.mem_cons_self)))) rfl rfl rfl ⟨q, g', c', rfl, ((H.drop (.there (.there (.there (.there .here))))).drop (.there (.there (.there (.there .here))))).drop (.there (.there (.there (.there .here))))⟩
end
end Go.Proofs.Ytjipelhcgglhhaa

/- clients.Client: Take of a letter that is refused. -/
namespace Go.Proofs.Ytjipelhcgglhhaa
open Go.RowKit
set_option linter.unusedSimpArgs false
set_option linter.unusedVariables false
section
variable {W w : World} {l : List Thing}
set_option maxRecDepth 100000
set_option maxHeartbeats 1000000
theorem take_shut (p : Nat) (id n to num waits k0 f0 t0 c0 n0 : Int) (s0 : Value) (is : Bool) (kind frm lto term index mark commit : Int) (yes : Bool) (entries data : Value) (cid cnum : Int) (steps : Value) (err rerr rat : Int) (got : Value)
    (hn : decide (0 < n) = true) (hid : 0 ≤ id ∧ id ≤ 8) (hf : 0 ≤ frm ∧ frm ≤ 255) (e1 : is = false) (H : Heap W (Cli p id n to num waits k0 f0 t0 c0 n0 s0 is :: l) w) :
    Calls Try.prog 9 #[.pointer (some ⟨p, 0, none⟩), .agg (letg kind frm lto term index mark commit yes entries data cid cnum steps err rerr rat got)] w fun e w' =>
      e = .returned (.tuple #[.agg (rep 0 0 (.slice none 0 0)), .bool false, .slice none 0 0]) ∧ Heap W (Cli p id n to num waits k0 f0 t0 c0 n0 s0 is :: l) w' := by
  have hw : IntKind.u8.wrap (100 + id) = 100 + id := IntWalk.u8_in _ (by omega)
  have hw1 : 0 ≤ 100 + id := by omega
  have hw2 : 100 + id ≤ 255 := by omega
  have f0 : 0 ≤ frm := by omega
  have f1 : frm ≤ 255 := by omega
  clear hid hf
  unfold Cli at *
  subst e1
  go_enter Try.func9, Try.ntmps9
  go_wp2_with (first
    | go_skip | ((with_reducible show wpList _ _ _ (_ :: _) _ _); (with_reducible apply wpl_boxRH); (· rfl); (· rfl); (· exact H); (clear H; intro px _ H); (simp only [Act.put, List.setIfInBounds_toArray, List.set_cons_zero, List.set_cons_succ]))
    | ((with_reducible show wpList _ _ _ (_ :: _) _ _); (with_reducible apply wpl_boxPH); (· rfl); (· rfl); (· exact H); (clear H; intro py _ H); (simp only [Act.put, List.setIfInBounds_toArray, List.set_cons_zero, List.set_cons_succ]))
    | ((with_reducible show wpList _ _ _ (_ :: _) _ _); (with_reducible apply wpl_allocRH row_rep); (· rfl); (· exact H); (clear H; intro pz _ H); (simp only [Act.put, List.setIfInBounds_toArray, List.set_cons_zero, List.set_cons_succ])))
  change Heap _ (_ :: _ :: Cel py (one _) _ :: _) _ at H
  refine wp_region_H H (by kernel_rfl) (by kernel_rfl) ?_
  repeat (first | go_big_quiet_skip | ((with_reducible apply wpQ_loadCH); (· first | exact cell_b8 | exact cell_u64 | exact cell_i64 | exact cell_kind | exact cell_pcli); (· rfl); (· rfl); (· (repeat (first | (with_reducible exact List.mem_cons_self) | with_reducible apply List.mem_cons_of_mem))); (· (with_reducible first | exact cli_g0 .. | exact cli_g1 .. | exact cli_g2 .. | exact cli_g3 .. | exact cli_g4 .. | exact cli_g5 .. | exact cli_g6 .. | exact cli_g7 .. | exact cli_g8 .. | exact cli_g9 .. | exact cli_g10 .. | exact cli_g11 .. | exact cli_g12 .. | exact cli_g13 .. | exact cli_g14 .. | exact cli_g15 .. | exact cli_g16 .. | exact cli_g17 .. | exact cli_g18 .. | exact cli_g19 .. | exact cli_g20 .. | exact cli_g21 .. | exact cli_g22 .. | exact letg_g0 .. | exact letg_g1 .. | exact letg_g2 .. | exact letg_g3 .. | exact letg_g4 .. | exact letg_g5 .. | exact letg_g6 .. | exact letg_g7 .. | exact letg_g8 .. | exact letg_g9 .. | exact letg_g10 .. | exact letg_g11 .. | exact letg_g12 .. | exact letg_g13 .. | exact letg_g14 .. | exact letg_g15 .. | exact letg_g16 .. | exact one_g0 ..)); (simp only [Act.put, List.setIfInBounds_toArray, List.set_cons_zero, List.set_cons_succ])) | go_big_quiet_step (exact (open_H (List.mem_cons_of_mem _ (List.mem_cons_of_mem _ (List.mem_cons_of_mem _ List.mem_cons_self))) hn).quiet))
  refine wpQuiet_nil ?_
  clear H
  intro _ H
  go_wp2_with (first
    | go_skip | ((with_reducible show wpList _ _ _ (_ :: _) _ _); (with_reducible apply wpl_loadRH row_rep); (· rfl); (· rfl); (· exact H); (· (repeat (first | (with_reducible exact List.mem_cons_self) | with_reducible apply List.mem_cons_of_mem))); (· (simp only [rep_sz, Nat.reduceAdd, Nat.reduceLeDiff, Nat.le_refl]; done)); (· with_reducible exact rep_all ..); (simp only [Act.put, List.setIfInBounds_toArray, List.set_cons_zero, List.set_cons_succ]))
    | ((with_reducible show wpList _ _ _ (_ :: _) _ _); (with_reducible apply wpl_storeRH row_rep); (· rfl); (· rfl); (· rfl); (· with_reducible exact rep_cells ..); (· exact H); (· (repeat (first | (with_reducible exact List.mem_cons_self) | with_reducible apply List.mem_cons_of_mem))); (· (simp only [rep_sz, Nat.reduceAdd, Nat.reduceLeDiff, Nat.le_refl]; done)); (· with_reducible exact rep_splice ..); (· (repeat (first | (with_reducible exact Repl.here) | with_reducible apply Repl.there))); (clear H; intro _ H); (simp only [Act.put, List.setIfInBounds_toArray, List.set_cons_zero, List.set_cons_succ])))
  exact ret_row3H row_rep rfl rfl rfl H List.mem_cons_self rfl rfl rfl ⟨rfl, H.tail.tail.tail⟩
theorem take_kind (p : Nat) (id n to num waits k0 f0 t0 c0 n0 : Int) (s0 : Value) (is : Bool) (kind frm lto term index mark commit : Int) (yes : Bool) (entries data : Value) (cid cnum : Int) (steps : Value) (err rerr rat : Int) (got : Value)
    (hn : decide (0 < n) = true) (hid : 0 ≤ id ∧ id ≤ 8) (hf : 0 ≤ frm ∧ frm ≤ 255) (e1 : is = true) (e2 : (kind != 7) = true) (H : Heap W (Cli p id n to num waits k0 f0 t0 c0 n0 s0 is :: l) w) :
    Calls Try.prog 9 #[.pointer (some ⟨p, 0, none⟩), .agg (letg kind frm lto term index mark commit yes entries data cid cnum steps err rerr rat got)] w fun e w' =>
      e = .returned (.tuple #[.agg (rep 0 0 (.slice none 0 0)), .bool false, .slice none 0 0]) ∧ Heap W (Cli p id n to num waits k0 f0 t0 c0 n0 s0 is :: l) w' := by
  have hw : IntKind.u8.wrap (100 + id) = 100 + id := IntWalk.u8_in _ (by omega)
  have hw1 : 0 ≤ 100 + id := by omega
  have hw2 : 100 + id ≤ 255 := by omega
  have f0 : 0 ≤ frm := by omega
  have f1 : frm ≤ 255 := by omega
  clear hid hf
  unfold Cli at *
  subst e1
  go_enter Try.func9, Try.ntmps9
  go_wp2_with (first
    | go_skip | ((with_reducible show wpList _ _ _ (_ :: _) _ _); (with_reducible apply wpl_boxRH); (· rfl); (· rfl); (· exact H); (clear H; intro px _ H); (simp only [Act.put, List.setIfInBounds_toArray, List.set_cons_zero, List.set_cons_succ]))
    | ((with_reducible show wpList _ _ _ (_ :: _) _ _); (with_reducible apply wpl_boxPH); (· rfl); (· rfl); (· exact H); (clear H; intro py _ H); (simp only [Act.put, List.setIfInBounds_toArray, List.set_cons_zero, List.set_cons_succ]))
    | ((with_reducible show wpList _ _ _ (_ :: _) _ _); (with_reducible apply wpl_allocRH row_rep); (· rfl); (· exact H); (clear H; intro pz _ H); (simp only [Act.put, List.setIfInBounds_toArray, List.set_cons_zero, List.set_cons_succ])))
  change Heap _ (_ :: _ :: Cel py (one _) _ :: _) _ at H
  refine wp_region_H H (by kernel_rfl) (by kernel_rfl) ?_
  repeat (first | go_big_quiet_skip | ((with_reducible apply wpQ_loadCH); (· first | exact cell_b8 | exact cell_u64 | exact cell_i64 | exact cell_kind | exact cell_pcli); (· rfl); (· rfl); (· (repeat (first | (with_reducible exact List.mem_cons_self) | with_reducible apply List.mem_cons_of_mem))); (· (with_reducible first | exact cli_g0 .. | exact cli_g1 .. | exact cli_g2 .. | exact cli_g3 .. | exact cli_g4 .. | exact cli_g5 .. | exact cli_g6 .. | exact cli_g7 .. | exact cli_g8 .. | exact cli_g9 .. | exact cli_g10 .. | exact cli_g11 .. | exact cli_g12 .. | exact cli_g13 .. | exact cli_g14 .. | exact cli_g15 .. | exact cli_g16 .. | exact cli_g17 .. | exact cli_g18 .. | exact cli_g19 .. | exact cli_g20 .. | exact cli_g21 .. | exact cli_g22 .. | exact letg_g0 .. | exact letg_g1 .. | exact letg_g2 .. | exact letg_g3 .. | exact letg_g4 .. | exact letg_g5 .. | exact letg_g6 .. | exact letg_g7 .. | exact letg_g8 .. | exact letg_g9 .. | exact letg_g10 .. | exact letg_g11 .. | exact letg_g12 .. | exact letg_g13 .. | exact letg_g14 .. | exact letg_g15 .. | exact letg_g16 .. | exact one_g0 ..)); (simp only [Act.put, List.setIfInBounds_toArray, List.set_cons_zero, List.set_cons_succ])) | go_big_quiet_step (exact (open_H (List.mem_cons_of_mem _ (List.mem_cons_of_mem _ (List.mem_cons_of_mem _ List.mem_cons_self))) hn).quiet))
  refine wpQuiet_nil ?_
  clear H
  intro _ H
  go_wp2_with (first
    | go_skip | ((with_reducible show wpList _ _ _ (_ :: _) _ _); (with_reducible apply wpl_loadRH row_rep); (· rfl); (· rfl); (· exact H); (· (repeat (first | (with_reducible exact List.mem_cons_self) | with_reducible apply List.mem_cons_of_mem))); (· (simp only [rep_sz, Nat.reduceAdd, Nat.reduceLeDiff, Nat.le_refl]; done)); (· with_reducible exact rep_all ..); (simp only [Act.put, List.setIfInBounds_toArray, List.set_cons_zero, List.set_cons_succ]))
    | ((with_reducible show wpList _ _ _ (_ :: _) _ _); (with_reducible apply wpl_storeRH row_rep); (· rfl); (· rfl); (· rfl); (· with_reducible exact rep_cells ..); (· exact H); (· (repeat (first | (with_reducible exact List.mem_cons_self) | with_reducible apply List.mem_cons_of_mem))); (· (simp only [rep_sz, Nat.reduceAdd, Nat.reduceLeDiff, Nat.le_refl]; done)); (· with_reducible exact rep_splice ..); (· (repeat (first | (with_reducible exact Repl.here) | with_reducible apply Repl.there))); (clear H; intro _ H); (simp only [Act.put, List.setIfInBounds_toArray, List.set_cons_zero, List.set_cons_succ])))
  exact ret_row3H row_rep rfl rfl rfl H List.mem_cons_self rfl rfl rfl ⟨rfl, H.tail.tail.tail⟩
theorem take_lto (p : Nat) (id n to num waits k0 f0 t0 c0 n0 : Int) (s0 : Value) (is : Bool) (kind frm lto term index mark commit : Int) (yes : Bool) (entries data : Value) (cid cnum : Int) (steps : Value) (err rerr rat : Int) (got : Value)
    (hn : decide (0 < n) = true) (hid : 0 ≤ id ∧ id ≤ 8) (hf : 0 ≤ frm ∧ frm ≤ 255) (e1 : is = true) (e2 : (kind != 7) = false) (e3 : (lto != 100 + id) = true) (H : Heap W (Cli p id n to num waits k0 f0 t0 c0 n0 s0 is :: l) w) :
    Calls Try.prog 9 #[.pointer (some ⟨p, 0, none⟩), .agg (letg kind frm lto term index mark commit yes entries data cid cnum steps err rerr rat got)] w fun e w' =>
      e = .returned (.tuple #[.agg (rep 0 0 (.slice none 0 0)), .bool false, .slice none 0 0]) ∧ Heap W (Cli p id n to num waits k0 f0 t0 c0 n0 s0 is :: l) w' := by
  have hw : IntKind.u8.wrap (100 + id) = 100 + id := IntWalk.u8_in _ (by omega)
  have hw1 : 0 ≤ 100 + id := by omega
  have hw2 : 100 + id ≤ 255 := by omega
  have f0 : 0 ≤ frm := by omega
  have f1 : frm ≤ 255 := by omega
  clear hid hf
  unfold Cli at *
  subst e1
  go_enter Try.func9, Try.ntmps9
  go_wp2_with (first
    | go_skip | ((with_reducible show wpList _ _ _ (_ :: _) _ _); (with_reducible apply wpl_boxRH); (· rfl); (· rfl); (· exact H); (clear H; intro px _ H); (simp only [Act.put, List.setIfInBounds_toArray, List.set_cons_zero, List.set_cons_succ]))
    | ((with_reducible show wpList _ _ _ (_ :: _) _ _); (with_reducible apply wpl_boxPH); (· rfl); (· rfl); (· exact H); (clear H; intro py _ H); (simp only [Act.put, List.setIfInBounds_toArray, List.set_cons_zero, List.set_cons_succ]))
    | ((with_reducible show wpList _ _ _ (_ :: _) _ _); (with_reducible apply wpl_allocRH row_rep); (· rfl); (· exact H); (clear H; intro pz _ H); (simp only [Act.put, List.setIfInBounds_toArray, List.set_cons_zero, List.set_cons_succ])))
  change Heap _ (_ :: _ :: Cel py (one _) _ :: _) _ at H
  refine wp_region_H H (by kernel_rfl) (by kernel_rfl) ?_
  repeat (first | go_big_quiet_skip | ((with_reducible apply wpQ_loadCH); (· first | exact cell_b8 | exact cell_u64 | exact cell_i64 | exact cell_kind | exact cell_pcli); (· rfl); (· rfl); (· (repeat (first | (with_reducible exact List.mem_cons_self) | with_reducible apply List.mem_cons_of_mem))); (· (with_reducible first | exact cli_g0 .. | exact cli_g1 .. | exact cli_g2 .. | exact cli_g3 .. | exact cli_g4 .. | exact cli_g5 .. | exact cli_g6 .. | exact cli_g7 .. | exact cli_g8 .. | exact cli_g9 .. | exact cli_g10 .. | exact cli_g11 .. | exact cli_g12 .. | exact cli_g13 .. | exact cli_g14 .. | exact cli_g15 .. | exact cli_g16 .. | exact cli_g17 .. | exact cli_g18 .. | exact cli_g19 .. | exact cli_g20 .. | exact cli_g21 .. | exact cli_g22 .. | exact letg_g0 .. | exact letg_g1 .. | exact letg_g2 .. | exact letg_g3 .. | exact letg_g4 .. | exact letg_g5 .. | exact letg_g6 .. | exact letg_g7 .. | exact letg_g8 .. | exact letg_g9 .. | exact letg_g10 .. | exact letg_g11 .. | exact letg_g12 .. | exact letg_g13 .. | exact letg_g14 .. | exact letg_g15 .. | exact letg_g16 .. | exact one_g0 ..)); (simp only [Act.put, List.setIfInBounds_toArray, List.set_cons_zero, List.set_cons_succ])) | go_big_quiet_step (exact (open_H (List.mem_cons_of_mem _ (List.mem_cons_of_mem _ (List.mem_cons_of_mem _ List.mem_cons_self))) hn).quiet))
  refine wpQuiet_nil ?_
  clear H
  intro _ H
  go_wp2_with (first
    | go_skip | ((with_reducible show wpList _ _ _ (_ :: _) _ _); (with_reducible apply wpl_loadRH row_rep); (· rfl); (· rfl); (· exact H); (· (repeat (first | (with_reducible exact List.mem_cons_self) | with_reducible apply List.mem_cons_of_mem))); (· (simp only [rep_sz, Nat.reduceAdd, Nat.reduceLeDiff, Nat.le_refl]; done)); (· with_reducible exact rep_all ..); (simp only [Act.put, List.setIfInBounds_toArray, List.set_cons_zero, List.set_cons_succ]))
    | ((with_reducible show wpList _ _ _ (_ :: _) _ _); (with_reducible apply wpl_storeRH row_rep); (· rfl); (· rfl); (· rfl); (· with_reducible exact rep_cells ..); (· exact H); (· (repeat (first | (with_reducible exact List.mem_cons_self) | with_reducible apply List.mem_cons_of_mem))); (· (simp only [rep_sz, Nat.reduceAdd, Nat.reduceLeDiff, Nat.le_refl]; done)); (· with_reducible exact rep_splice ..); (· (repeat (first | (with_reducible exact Repl.here) | with_reducible apply Repl.there))); (clear H; intro _ H); (simp only [Act.put, List.setIfInBounds_toArray, List.set_cons_zero, List.set_cons_succ])))
  exact ret_row3H row_rep rfl rfl rfl H List.mem_cons_self rfl rfl rfl ⟨rfl, H.tail.tail.tail⟩
theorem take_cid (p : Nat) (id n to num waits k0 f0 t0 c0 n0 : Int) (s0 : Value) (is : Bool) (kind frm lto term index mark commit : Int) (yes : Bool) (entries data : Value) (cid cnum : Int) (steps : Value) (err rerr rat : Int) (got : Value)
    (hn : decide (0 < n) = true) (hid : 0 ≤ id ∧ id ≤ 8) (hf : 0 ≤ frm ∧ frm ≤ 255) (e1 : is = true) (e2 : (kind != 7) = false) (e3 : (lto != 100 + id) = false) (e4 : (cid != id) = true) (H : Heap W (Cli p id n to num waits k0 f0 t0 c0 n0 s0 is :: l) w) :
    Calls Try.prog 9 #[.pointer (some ⟨p, 0, none⟩), .agg (letg kind frm lto term index mark commit yes entries data cid cnum steps err rerr rat got)] w fun e w' =>
      e = .returned (.tuple #[.agg (rep 0 0 (.slice none 0 0)), .bool false, .slice none 0 0]) ∧ Heap W (Cli p id n to num waits k0 f0 t0 c0 n0 s0 is :: l) w' := by
  have hw : IntKind.u8.wrap (100 + id) = 100 + id := IntWalk.u8_in _ (by omega)
  have hw1 : 0 ≤ 100 + id := by omega
  have hw2 : 100 + id ≤ 255 := by omega
  have f0 : 0 ≤ frm := by omega
  have f1 : frm ≤ 255 := by omega
  clear hid hf
  unfold Cli at *
  subst e1
  go_enter Try.func9, Try.ntmps9
  go_wp2_with (first
    | go_skip | ((with_reducible show wpList _ _ _ (_ :: _) _ _); (with_reducible apply wpl_boxRH); (· rfl); (· rfl); (· exact H); (clear H; intro px _ H); (simp only [Act.put, List.setIfInBounds_toArray, List.set_cons_zero, List.set_cons_succ]))
    | ((with_reducible show wpList _ _ _ (_ :: _) _ _); (with_reducible apply wpl_boxPH); (· rfl); (· rfl); (· exact H); (clear H; intro py _ H); (simp only [Act.put, List.setIfInBounds_toArray, List.set_cons_zero, List.set_cons_succ]))
    | ((with_reducible show wpList _ _ _ (_ :: _) _ _); (with_reducible apply wpl_allocRH row_rep); (· rfl); (· exact H); (clear H; intro pz _ H); (simp only [Act.put, List.setIfInBounds_toArray, List.set_cons_zero, List.set_cons_succ])))
  change Heap _ (_ :: _ :: Cel py (one _) _ :: _) _ at H
  refine wp_region_H H (by kernel_rfl) (by kernel_rfl) ?_
  repeat (first | go_big_quiet_skip | ((with_reducible apply wpQ_loadCH); (· first | exact cell_b8 | exact cell_u64 | exact cell_i64 | exact cell_kind | exact cell_pcli); (· rfl); (· rfl); (· (repeat (first | (with_reducible exact List.mem_cons_self) | with_reducible apply List.mem_cons_of_mem))); (· (with_reducible first | exact cli_g0 .. | exact cli_g1 .. | exact cli_g2 .. | exact cli_g3 .. | exact cli_g4 .. | exact cli_g5 .. | exact cli_g6 .. | exact cli_g7 .. | exact cli_g8 .. | exact cli_g9 .. | exact cli_g10 .. | exact cli_g11 .. | exact cli_g12 .. | exact cli_g13 .. | exact cli_g14 .. | exact cli_g15 .. | exact cli_g16 .. | exact cli_g17 .. | exact cli_g18 .. | exact cli_g19 .. | exact cli_g20 .. | exact cli_g21 .. | exact cli_g22 .. | exact letg_g0 .. | exact letg_g1 .. | exact letg_g2 .. | exact letg_g3 .. | exact letg_g4 .. | exact letg_g5 .. | exact letg_g6 .. | exact letg_g7 .. | exact letg_g8 .. | exact letg_g9 .. | exact letg_g10 .. | exact letg_g11 .. | exact letg_g12 .. | exact letg_g13 .. | exact letg_g14 .. | exact letg_g15 .. | exact letg_g16 .. | exact one_g0 ..)); (simp only [Act.put, List.setIfInBounds_toArray, List.set_cons_zero, List.set_cons_succ])) | go_big_quiet_step (exact (open_H (List.mem_cons_of_mem _ (List.mem_cons_of_mem _ (List.mem_cons_of_mem _ List.mem_cons_self))) hn).quiet))
  refine wpQuiet_nil ?_
  clear H
  intro _ H
  go_wp2_with (first
    | go_skip | ((with_reducible show wpList _ _ _ (_ :: _) _ _); (with_reducible apply wpl_loadRH row_rep); (· rfl); (· rfl); (· exact H); (· (repeat (first | (with_reducible exact List.mem_cons_self) | with_reducible apply List.mem_cons_of_mem))); (· (simp only [rep_sz, Nat.reduceAdd, Nat.reduceLeDiff, Nat.le_refl]; done)); (· with_reducible exact rep_all ..); (simp only [Act.put, List.setIfInBounds_toArray, List.set_cons_zero, List.set_cons_succ]))
    | ((with_reducible show wpList _ _ _ (_ :: _) _ _); (with_reducible apply wpl_storeRH row_rep); (· rfl); (· rfl); (· rfl); (· with_reducible exact rep_cells ..); (· exact H); (· (repeat (first | (with_reducible exact List.mem_cons_self) | with_reducible apply List.mem_cons_of_mem))); (· (simp only [rep_sz, Nat.reduceAdd, Nat.reduceLeDiff, Nat.le_refl]; done)); (· with_reducible exact rep_splice ..); (· (repeat (first | (with_reducible exact Repl.here) | with_reducible apply Repl.there))); (clear H; intro _ H); (simp only [Act.put, List.setIfInBounds_toArray, List.set_cons_zero, List.set_cons_succ])))
  exact ret_row3H row_rep rfl rfl rfl H List.mem_cons_self rfl rfl rfl ⟨rfl, H.tail.tail.tail⟩
theorem take_num (p : Nat) (id n to num waits k0 f0 t0 c0 n0 : Int) (s0 : Value) (is : Bool) (kind frm lto term index mark commit : Int) (yes : Bool) (entries data : Value) (cid cnum : Int) (steps : Value) (err rerr rat : Int) (got : Value)
    (hn : decide (0 < n) = true) (hid : 0 ≤ id ∧ id ≤ 8) (hf : 0 ≤ frm ∧ frm ≤ 255) (e1 : is = true) (e2 : (kind != 7) = false) (e3 : (lto != 100 + id) = false) (e4 : (cid != id) = false) (e5 : (cnum != num) = true) (H : Heap W (Cli p id n to num waits k0 f0 t0 c0 n0 s0 is :: l) w) :
    Calls Try.prog 9 #[.pointer (some ⟨p, 0, none⟩), .agg (letg kind frm lto term index mark commit yes entries data cid cnum steps err rerr rat got)] w fun e w' =>
      e = .returned (.tuple #[.agg (rep 0 0 (.slice none 0 0)), .bool false, .slice none 0 0]) ∧ Heap W (Cli p id n to num waits k0 f0 t0 c0 n0 s0 is :: l) w' := by
  have hw : IntKind.u8.wrap (100 + id) = 100 + id := IntWalk.u8_in _ (by omega)
  have hw1 : 0 ≤ 100 + id := by omega
  have hw2 : 100 + id ≤ 255 := by omega
  have f0 : 0 ≤ frm := by omega
  have f1 : frm ≤ 255 := by omega
  clear hid hf
  unfold Cli at *
  subst e1
  go_enter Try.func9, Try.ntmps9
  go_wp2_with (first
    | go_skip | ((with_reducible show wpList _ _ _ (_ :: _) _ _); (with_reducible apply wpl_boxRH); (· rfl); (· rfl); (· exact H); (clear H; intro px _ H); (simp only [Act.put, List.setIfInBounds_toArray, List.set_cons_zero, List.set_cons_succ]))
    | ((with_reducible show wpList _ _ _ (_ :: _) _ _); (with_reducible apply wpl_boxPH); (· rfl); (· rfl); (· exact H); (clear H; intro py _ H); (simp only [Act.put, List.setIfInBounds_toArray, List.set_cons_zero, List.set_cons_succ]))
    | ((with_reducible show wpList _ _ _ (_ :: _) _ _); (with_reducible apply wpl_allocRH row_rep); (· rfl); (· exact H); (clear H; intro pz _ H); (simp only [Act.put, List.setIfInBounds_toArray, List.set_cons_zero, List.set_cons_succ])))
  change Heap _ (_ :: _ :: Cel py (one _) _ :: _) _ at H
  refine wp_region_H H (by kernel_rfl) (by kernel_rfl) ?_
  repeat (first | go_big_quiet_skip | ((with_reducible apply wpQ_loadCH); (· first | exact cell_b8 | exact cell_u64 | exact cell_i64 | exact cell_kind | exact cell_pcli); (· rfl); (· rfl); (· (repeat (first | (with_reducible exact List.mem_cons_self) | with_reducible apply List.mem_cons_of_mem))); (· (with_reducible first | exact cli_g0 .. | exact cli_g1 .. | exact cli_g2 .. | exact cli_g3 .. | exact cli_g4 .. | exact cli_g5 .. | exact cli_g6 .. | exact cli_g7 .. | exact cli_g8 .. | exact cli_g9 .. | exact cli_g10 .. | exact cli_g11 .. | exact cli_g12 .. | exact cli_g13 .. | exact cli_g14 .. | exact cli_g15 .. | exact cli_g16 .. | exact cli_g17 .. | exact cli_g18 .. | exact cli_g19 .. | exact cli_g20 .. | exact cli_g21 .. | exact cli_g22 .. | exact letg_g0 .. | exact letg_g1 .. | exact letg_g2 .. | exact letg_g3 .. | exact letg_g4 .. | exact letg_g5 .. | exact letg_g6 .. | exact letg_g7 .. | exact letg_g8 .. | exact letg_g9 .. | exact letg_g10 .. | exact letg_g11 .. | exact letg_g12 .. | exact letg_g13 .. | exact letg_g14 .. | exact letg_g15 .. | exact letg_g16 .. | exact one_g0 ..)); (simp only [Act.put, List.setIfInBounds_toArray, List.set_cons_zero, List.set_cons_succ])) | go_big_quiet_step (exact (open_H (List.mem_cons_of_mem _ (List.mem_cons_of_mem _ (List.mem_cons_of_mem _ List.mem_cons_self))) hn).quiet))
  refine wpQuiet_nil ?_
  clear H
  intro _ H
  go_wp2_with (first
    | go_skip | ((with_reducible show wpList _ _ _ (_ :: _) _ _); (with_reducible apply wpl_loadRH row_rep); (· rfl); (· rfl); (· exact H); (· (repeat (first | (with_reducible exact List.mem_cons_self) | with_reducible apply List.mem_cons_of_mem))); (· (simp only [rep_sz, Nat.reduceAdd, Nat.reduceLeDiff, Nat.le_refl]; done)); (· with_reducible exact rep_all ..); (simp only [Act.put, List.setIfInBounds_toArray, List.set_cons_zero, List.set_cons_succ]))
    | ((with_reducible show wpList _ _ _ (_ :: _) _ _); (with_reducible apply wpl_storeRH row_rep); (· rfl); (· rfl); (· rfl); (· with_reducible exact rep_cells ..); (· exact H); (· (repeat (first | (with_reducible exact List.mem_cons_self) | with_reducible apply List.mem_cons_of_mem))); (· (simp only [rep_sz, Nat.reduceAdd, Nat.reduceLeDiff, Nat.le_refl]; done)); (· with_reducible exact rep_splice ..); (· (repeat (first | (with_reducible exact Repl.here) | with_reducible apply Repl.there))); (clear H; intro _ H); (simp only [Act.put, List.setIfInBounds_toArray, List.set_cons_zero, List.set_cons_succ])))
  exact ret_row3H row_rep rfl rfl rfl H List.mem_cons_self rfl rfl rfl ⟨rfl, H.tail.tail.tail⟩
theorem take_low (p : Nat) (id n to num waits k0 f0 t0 c0 n0 : Int) (s0 : Value) (is : Bool) (kind frm lto term index mark commit : Int) (yes : Bool) (entries data : Value) (cid cnum : Int) (steps : Value) (err rerr rat : Int) (got : Value)
    (hn : decide (0 < n) = true) (hid : 0 ≤ id ∧ id ≤ 8) (hf : 0 ≤ frm ∧ frm ≤ 255) (e1 : is = true) (e2 : (kind != 7) = false) (e3 : (lto != 100 + id) = false) (e4 : (cid != id) = false) (e5 : (cnum != num) = false) (e6 : decide (frm < 1) = true) (H : Heap W (Cli p id n to num waits k0 f0 t0 c0 n0 s0 is :: l) w) :
    Calls Try.prog 9 #[.pointer (some ⟨p, 0, none⟩), .agg (letg kind frm lto term index mark commit yes entries data cid cnum steps err rerr rat got)] w fun e w' =>
      e = .returned (.tuple #[.agg (rep 0 0 (.slice none 0 0)), .bool false, .slice none 0 0]) ∧ Heap W (Cli p id n to num waits k0 f0 t0 c0 n0 s0 is :: l) w' := by
  have hw : IntKind.u8.wrap (100 + id) = 100 + id := IntWalk.u8_in _ (by omega)
  have hw1 : 0 ≤ 100 + id := by omega
  have hw2 : 100 + id ≤ 255 := by omega
  have f0 : 0 ≤ frm := by omega
  have f1 : frm ≤ 255 := by omega
  clear hid hf
  unfold Cli at *
  subst e1
  go_enter Try.func9, Try.ntmps9
  go_wp2_with (first
    | go_skip | ((with_reducible show wpList _ _ _ (_ :: _) _ _); (with_reducible apply wpl_boxRH); (· rfl); (· rfl); (· exact H); (clear H; intro px _ H); (simp only [Act.put, List.setIfInBounds_toArray, List.set_cons_zero, List.set_cons_succ]))
    | ((with_reducible show wpList _ _ _ (_ :: _) _ _); (with_reducible apply wpl_boxPH); (· rfl); (· rfl); (· exact H); (clear H; intro py _ H); (simp only [Act.put, List.setIfInBounds_toArray, List.set_cons_zero, List.set_cons_succ]))
    | ((with_reducible show wpList _ _ _ (_ :: _) _ _); (with_reducible apply wpl_allocRH row_rep); (· rfl); (· exact H); (clear H; intro pz _ H); (simp only [Act.put, List.setIfInBounds_toArray, List.set_cons_zero, List.set_cons_succ])))
  change Heap _ (_ :: _ :: Cel py (one _) _ :: _) _ at H
  refine wp_region_H H (by kernel_rfl) (by kernel_rfl) ?_
  repeat (first | go_big_quiet_skip | ((with_reducible apply wpQ_loadCH); (· first | exact cell_b8 | exact cell_u64 | exact cell_i64 | exact cell_kind | exact cell_pcli); (· rfl); (· rfl); (· (repeat (first | (with_reducible exact List.mem_cons_self) | with_reducible apply List.mem_cons_of_mem))); (· (with_reducible first | exact cli_g0 .. | exact cli_g1 .. | exact cli_g2 .. | exact cli_g3 .. | exact cli_g4 .. | exact cli_g5 .. | exact cli_g6 .. | exact cli_g7 .. | exact cli_g8 .. | exact cli_g9 .. | exact cli_g10 .. | exact cli_g11 .. | exact cli_g12 .. | exact cli_g13 .. | exact cli_g14 .. | exact cli_g15 .. | exact cli_g16 .. | exact cli_g17 .. | exact cli_g18 .. | exact cli_g19 .. | exact cli_g20 .. | exact cli_g21 .. | exact cli_g22 .. | exact letg_g0 .. | exact letg_g1 .. | exact letg_g2 .. | exact letg_g3 .. | exact letg_g4 .. | exact letg_g5 .. | exact letg_g6 .. | exact letg_g7 .. | exact letg_g8 .. | exact letg_g9 .. | exact letg_g10 .. | exact letg_g11 .. | exact letg_g12 .. | exact letg_g13 .. | exact letg_g14 .. | exact letg_g15 .. | exact letg_g16 .. | exact one_g0 ..)); (simp only [Act.put, List.setIfInBounds_toArray, List.set_cons_zero, List.set_cons_succ])) | go_big_quiet_step (exact (open_H (List.mem_cons_of_mem _ (List.mem_cons_of_mem _ (List.mem_cons_of_mem _ List.mem_cons_self))) hn).quiet))
  refine wpQuiet_nil ?_
  clear H
  intro _ H
  go_wp2_with (first
    | go_skip | ((with_reducible show wpList _ _ _ (_ :: _) _ _); (with_reducible apply wpl_loadRH row_rep); (· rfl); (· rfl); (· exact H); (· (repeat (first | (with_reducible exact List.mem_cons_self) | with_reducible apply List.mem_cons_of_mem))); (· (simp only [rep_sz, Nat.reduceAdd, Nat.reduceLeDiff, Nat.le_refl]; done)); (· with_reducible exact rep_all ..); (simp only [Act.put, List.setIfInBounds_toArray, List.set_cons_zero, List.set_cons_succ]))
    | ((with_reducible show wpList _ _ _ (_ :: _) _ _); (with_reducible apply wpl_storeRH row_rep); (· rfl); (· rfl); (· rfl); (· with_reducible exact rep_cells ..); (· exact H); (· (repeat (first | (with_reducible exact List.mem_cons_self) | with_reducible apply List.mem_cons_of_mem))); (· (simp only [rep_sz, Nat.reduceAdd, Nat.reduceLeDiff, Nat.le_refl]; done)); (· with_reducible exact rep_splice ..); (· (repeat (first | (with_reducible exact Repl.here) | with_reducible apply Repl.there))); (clear H; intro _ H); (simp only [Act.put, List.setIfInBounds_toArray, List.set_cons_zero, List.set_cons_succ])))
  exact ret_row3H row_rep rfl rfl rfl H List.mem_cons_self rfl rfl rfl ⟨rfl, H.tail.tail.tail⟩
theorem take_high (p : Nat) (id n to num waits k0 f0 t0 c0 n0 : Int) (s0 : Value) (is : Bool) (kind frm lto term index mark commit : Int) (yes : Bool) (entries data : Value) (cid cnum : Int) (steps : Value) (err rerr rat : Int) (got : Value)
    (hn : decide (0 < n) = true) (hid : 0 ≤ id ∧ id ≤ 8) (hf : 0 ≤ frm ∧ frm ≤ 255) (e1 : is = true) (e2 : (kind != 7) = false) (e3 : (lto != 100 + id) = false) (e4 : (cid != id) = false) (e5 : (cnum != num) = false) (e6 : decide (frm < 1) = false) (e7 : decide (n < frm) = true) (H : Heap W (Cli p id n to num waits k0 f0 t0 c0 n0 s0 is :: l) w) :
    Calls Try.prog 9 #[.pointer (some ⟨p, 0, none⟩), .agg (letg kind frm lto term index mark commit yes entries data cid cnum steps err rerr rat got)] w fun e w' =>
      e = .returned (.tuple #[.agg (rep 0 0 (.slice none 0 0)), .bool false, .slice none 0 0]) ∧ Heap W (Cli p id n to num waits k0 f0 t0 c0 n0 s0 is :: l) w' := by
  have hw : IntKind.u8.wrap (100 + id) = 100 + id := IntWalk.u8_in _ (by omega)
  have hw1 : 0 ≤ 100 + id := by omega
  have hw2 : 100 + id ≤ 255 := by omega
  have f0 : 0 ≤ frm := by omega
  have f1 : frm ≤ 255 := by omega
  clear hid hf
  unfold Cli at *
  subst e1
  go_enter Try.func9, Try.ntmps9
  go_wp2_with (first
    | go_skip | ((with_reducible show wpList _ _ _ (_ :: _) _ _); (with_reducible apply wpl_boxRH); (· rfl); (· rfl); (· exact H); (clear H; intro px _ H); (simp only [Act.put, List.setIfInBounds_toArray, List.set_cons_zero, List.set_cons_succ]))
    | ((with_reducible show wpList _ _ _ (_ :: _) _ _); (with_reducible apply wpl_boxPH); (· rfl); (· rfl); (· exact H); (clear H; intro py _ H); (simp only [Act.put, List.setIfInBounds_toArray, List.set_cons_zero, List.set_cons_succ]))
    | ((with_reducible show wpList _ _ _ (_ :: _) _ _); (with_reducible apply wpl_allocRH row_rep); (· rfl); (· exact H); (clear H; intro pz _ H); (simp only [Act.put, List.setIfInBounds_toArray, List.set_cons_zero, List.set_cons_succ])))
  change Heap _ (_ :: _ :: Cel py (one _) _ :: _) _ at H
  refine wp_region_H H (by kernel_rfl) (by kernel_rfl) ?_
  repeat (first | go_big_quiet_skip | ((with_reducible apply wpQ_loadCH); (· first | exact cell_b8 | exact cell_u64 | exact cell_i64 | exact cell_kind | exact cell_pcli); (· rfl); (· rfl); (· (repeat (first | (with_reducible exact List.mem_cons_self) | with_reducible apply List.mem_cons_of_mem))); (· (with_reducible first | exact cli_g0 .. | exact cli_g1 .. | exact cli_g2 .. | exact cli_g3 .. | exact cli_g4 .. | exact cli_g5 .. | exact cli_g6 .. | exact cli_g7 .. | exact cli_g8 .. | exact cli_g9 .. | exact cli_g10 .. | exact cli_g11 .. | exact cli_g12 .. | exact cli_g13 .. | exact cli_g14 .. | exact cli_g15 .. | exact cli_g16 .. | exact cli_g17 .. | exact cli_g18 .. | exact cli_g19 .. | exact cli_g20 .. | exact cli_g21 .. | exact cli_g22 .. | exact letg_g0 .. | exact letg_g1 .. | exact letg_g2 .. | exact letg_g3 .. | exact letg_g4 .. | exact letg_g5 .. | exact letg_g6 .. | exact letg_g7 .. | exact letg_g8 .. | exact letg_g9 .. | exact letg_g10 .. | exact letg_g11 .. | exact letg_g12 .. | exact letg_g13 .. | exact letg_g14 .. | exact letg_g15 .. | exact letg_g16 .. | exact one_g0 ..)); (simp only [Act.put, List.setIfInBounds_toArray, List.set_cons_zero, List.set_cons_succ])) | go_big_quiet_step (exact (open_H (List.mem_cons_of_mem _ (List.mem_cons_of_mem _ (List.mem_cons_of_mem _ List.mem_cons_self))) hn).quiet))
  refine wpQuiet_nil ?_
  clear H
  intro _ H
  go_wp2_with (first
    | go_skip | ((with_reducible show wpList _ _ _ (_ :: _) _ _); (with_reducible apply wpl_loadRH row_rep); (· rfl); (· rfl); (· exact H); (· (repeat (first | (with_reducible exact List.mem_cons_self) | with_reducible apply List.mem_cons_of_mem))); (· (simp only [rep_sz, Nat.reduceAdd, Nat.reduceLeDiff, Nat.le_refl]; done)); (· with_reducible exact rep_all ..); (simp only [Act.put, List.setIfInBounds_toArray, List.set_cons_zero, List.set_cons_succ]))
    | ((with_reducible show wpList _ _ _ (_ :: _) _ _); (with_reducible apply wpl_storeRH row_rep); (· rfl); (· rfl); (· rfl); (· with_reducible exact rep_cells ..); (· exact H); (· (repeat (first | (with_reducible exact List.mem_cons_self) | with_reducible apply List.mem_cons_of_mem))); (· (simp only [rep_sz, Nat.reduceAdd, Nat.reduceLeDiff, Nat.le_refl]; done)); (· with_reducible exact rep_splice ..); (· (repeat (first | (with_reducible exact Repl.here) | with_reducible apply Repl.there))); (clear H; intro _ H); (simp only [Act.put, List.setIfInBounds_toArray, List.set_cons_zero, List.set_cons_succ])))
  exact ret_row3H row_rep rfl rfl rfl H List.mem_cons_self rfl rfl rfl ⟨rfl, H.tail.tail.tail⟩
end
end Go.Proofs.Ytjipelhcgglhhaa

/- countinghouselaw27: command, lives. -/
namespace Go.Proofs.Ytjipelhcgglhhaa
open Go.RowKit
set_option linter.unusedSimpArgs false
set_option linter.unusedVariables false
section
variable {W w : World} {l : List Thing}
set_option maxRecDepth 100000
set_option maxHeartbeats 1000000
/-- The command's one step. -/
def step1 : Array Value := #[.int .u8 10, .int .u8 0, .int .u8 0, .int .u8 1, .int .u8 0, .int .i64 0, .int .i64 0, .int .i64 0, .int .i64 0, .int .u64 0]
theorem step1_len : step1.toList.length = 1 * 10 := rfl
theorem step1_one : OneCells step1.toList := by
  intro u hu
  simp [step1] at hu
  rcases hu with rfl | rfl | rfl | rfl | rfl | rfl <;> rfl
theorem bs_step : Try.prog.underlying 22 = some (.slice 87) ∧ (Try.prog.info? 87).map (fun i => (i.size, i.zero.map Value.cells)) = some ((#[.int .u8 0, .int .u8 0, .int .u8 0, .int .u8 0, .int .u8 0, .int .i64 0, .int .i64 0, .int .i64 0, .int .i64 0, .int .u64 0] : Array Value).size, some #[.int .u8 0, .int .u8 0, .int .u8 0, .int .u8 0, .int .u8 0, .int .i64 0, .int .i64 0, .int .i64 0, .int .i64 0, .int .u64 0]) ∧ 0 < (#[.int .u8 0, .int .u8 0, .int .u8 0, .int .u8 0, .int .u8 0, .int .i64 0, .int .i64 0, .int .i64 0, .int .i64 0, .int .u64 0] : Array Value).size ∧ (#[.int .u8 0, .int .u8 0, .int .u8 0, .int .u8 0, .int .u8 0, .int .i64 0, .int .i64 0, .int .i64 0, .int .i64 0, .int .u64 0] : Array Value).size ≤ 65536 := ⟨Try.underlying22, by kernel_rfl, by decide, by decide⟩
theorem cmd_cells (a : Option Addr) (n c : Nat) : Cells 1 #[.slice a n c] := ⟨rfl, by simp [Value.oneCell']⟩
theorem cmd_spl (a b : Value) : splice #[a] 0 #[b] = #[b] := splice_all rfl
theorem command_H (H : Heap W l w) : Calls Try.prog 14 #[] w fun e w' => ∃ g, e = .returned (.agg #[.slice (some ⟨g, 0, none⟩) 1 1]) ∧ Heap W (Cel g step1 87 :: l) w' := by
  go_enter Try.func14, Try.ntmps14
  go_wp2_with (first
    | go_skip
    | ((with_reducible show wpList _ _ _ (_ :: _) _ _); (with_reducible apply wpl_allocRH row_cmd); (· rfl); (· exact H); (clear H; intro p0 _ H); (simp only [Act.put, List.setIfInBounds_toArray, List.set_cons_zero, List.set_cons_succ]))
    | ((with_reducible show wpList _ _ _ (_ :: _) _ _); (with_reducible apply wpl_bsRH); (· rfl); (· rfl); (· exact bs_step); (· exact rfl); (· exact H); (clear H; intro g0 _ H); (simp only [Act.put, List.setIfInBounds_toArray, List.set_cons_zero, List.set_cons_succ]))
    | ((with_reducible show wpList _ _ _ (_ :: _) _ _); (with_reducible apply wpl_storeRH row_cmd); (· rfl); (· rfl); (· rfl); (· with_reducible exact cmd_cells ..); (· exact H); (· (repeat (first | (with_reducible exact List.mem_cons_self) | with_reducible apply List.mem_cons_of_mem))); (· (simp only [Array.size, List.length, Nat.reduceAdd, Nat.reduceLeDiff, Nat.le_refl]; done)); (· with_reducible exact cmd_spl ..); (· (repeat (first | (with_reducible exact Repl.here) | with_reducible apply Repl.there))); (clear H; intro _ H); (simp only [Act.put, List.setIfInBounds_toArray, List.set_cons_zero, List.set_cons_succ])))
  exact ret_row1H row_cmd rfl rfl rfl H (by (repeat (first | (with_reducible exact List.mem_cons_self) | with_reducible apply List.mem_cons_of_mem))) rfl ⟨g0, rfl, H.drop (.there .here)⟩
theorem new_H (id n : Int) (H : Heap W l w) (h0 : 1 ≤ id) (h1 : id ≤ 8) (h2 : 1 ≤ n) (h3 : n ≤ 7) :
    Calls Try.prog 13 #[.int .i64 id, .int .i64 n] w fun e w' => ∃ p, e = .returned (.pointer (some ⟨p, 0, none⟩)) ∧ Heap W (Cli p id n 1 0 0 0 0 0 0 0 (.slice none 0 0) false :: l) w' := by
  have k0 : decide (id < 1) = false := by simp; omega
  have k1 : decide (8 < id) = false := by simp; omega
  have k2 : decide (n < 1) = false := by simp; omega
  have k3 : decide (7 < n) = false := by simp; omega
  have hw : IntKind.u8.wrap id = id := IntWalk.u8_in _ (by omega)
  clear h0 h1 h2 h3
  go_enter Try.func13, Try.ntmps13
  go_wp2_with (first
    | go_skip
    | ((with_reducible show wpList _ _ _ (_ :: _) _ _); (with_reducible apply wpl_boxRH); (· rfl); (· rfl); (· exact H); (clear H; intro px _ H); (simp only [Act.put, List.setIfInBounds_toArray, List.set_cons_zero, List.set_cons_succ])))
  go_ret
  exact ⟨px, rfl, H⟩
theorem lives27_H (H : Heap W l w) : Calls Try.prog 7 #[] w fun e w' => e = .returned (.bool true) ∧ Heap W l w' := by
  go_enter Try.func7, Try.ntmps7
  go_wp2_with fail
  have C := new_H 1 3 H (by omega) (by omega) (by omega) (by omega)
  clear H
  refine C.mono ?_
  clear C
  rintro e w1 ⟨p, rfl, H⟩
  go_wp2_with fail
  have C := command_H H
  clear H
  refine C.mono ?_
  clear C
  rintro e w2 ⟨g0, rfl, H⟩
  go_wp2_with fail
  have C := call_H p g0 0 1 1 1 3 1 0 1 0 0 0 0 0 0 (.slice none 0 0) step1.toList (H.pull (.there .here)) (by omega) (by omega) step1_len step1_one (by omega) (by omega) (by decide) (by decide) (fun w' H' => H'.celRd List.mem_cons_self)
  clear H
  refine C.mono ?_
  clear C
  rintro e w3 ⟨q, g', c', g, c0, rfl, H⟩
  replace H := H.pull (.there (.there .here))
  go_wp2_with fail
  go_loopw [4] (fun i wr => ∃ k : Nat, k ≤ 4 ∧ i = .int .i64 k ∧ Heap W (Cli p 1 3 1 1 k 6 (100 + 1) 1 1 1 (.slice (some ⟨g, 0, none⟩) 1 c0) true :: Cel q (lett 6 (100 + 1) 1 1 1 (.slice (some ⟨g', 0, none⟩) 1 1)) 36 :: StepsT g' 1 c' step1.toList :: StepsT g 1 c0 step1.toList :: Cel g0 step1 87 :: l) wr) (fun i _ => 4 - (intOf i).toNat)
  case atStart => exact ⟨0, by omega, rfl, H⟩
  case round =>
    obtain ⟨k, hk, rfl, H'⟩ := hrel
    clear H
    by_cases hlt : k < 4
    · go_wp2_with fail
      have C := tick_wait p 1 3 1 1 k 6 (100 + 1) 1 1 1 (.slice (some ⟨g, 0, none⟩) 1 c0) (by decide) (by omega) (by omega) H'
      clear H'
      refine C.mono ?_
      clear C
      rintro e w4 ⟨rfl, H⟩
      go_wp2_with fail
      go_roundw
      case rel => exact ⟨k + 1, by omega, by go_num, H⟩
      case measure => simp [intOf]; omega
    · obtain rfl : k = 4 := by omega
      rw [show ((4 : Nat) : Int) = 4 from rfl] at H'
      go_wp2_with fail
      have C := tick_call p g 1 c0 1 3 1 2 1 6 (100 + 1) 1 1 1 step1.toList (by omega) (by omega) (by omega) (by omega) step1_len step1_one (by omega) (by decide) (H'.top2 (by (repeat (first | (with_reducible exact Pull.here) | with_reducible apply Pull.there))) (by (repeat (first | (with_reducible exact Pull.here) | with_reducible apply Pull.there))))
      clear H'
      refine C.mono ?_
      clear C
      rintro e w4 ⟨q5, g5, c5, rfl, H⟩
      go_wp2_with (first | go_skip | ((with_reducible show wpList _ _ _ (_ :: _) _ _); (with_reducible apply wpl_loadCH); (· first | exact cell_kind | exact cell_b8 | exact cell_u64); (· rfl); (· rfl); (· exact H); (· (repeat (first | (with_reducible exact List.mem_cons_self) | with_reducible apply List.mem_cons_of_mem))); (· (with_reducible first | exact lett_g0 .. | exact lett_g1 .. | exact lett_g2 .. | exact lett_g3 .. | exact lett_g4 .. | exact lett_g5 .. | exact lett_g6 .. | exact lett_g7 .. | exact lett_g8 .. | exact lett_g9 .. | exact lett_g10 .. | exact lett_g11 .. | exact lett_g12 .. | exact lett_g13 .. | exact lett_g14 .. | exact lett_g15 .. | exact lett_g16 ..)); (simp only [Act.put, List.setIfInBounds_toArray, List.set_cons_zero, List.set_cons_succ])))
      go_ret
      exact ⟨rfl, H.tail.tail.tail.tail.tail.tail.tail⟩
end
end Go.Proofs.Ytjipelhcgglhhaa

/- clear of a slice; []T{}. -/
namespace Go.Proofs.Ytjipelhcgglhhaa
open Go.RowKit
set_option linter.unusedSimpArgs false
set_option linter.unusedVariables false
section
variable {ops : Array Oper} {rest : List Oper} {o : Oper} {a : Act} {w W : World} {l : List Thing} {Q : Exit → Act → World → Prop}
theorem wpl_bs0 {dst : Option Tmp} {ty : TypeId} {pos : String} {after : Array Edge} {guard : Option (Nat × Bool)} {t e : Nat} (hw : Region.wanted ⟨dst, .buildSlice t 0 #[], ty, pos, after, guard⟩ (yielded ops a.tmps) = true)
    {size bytes : Nat} {z : Value} (T : SlTy Try.prog t e size bytes z) (H : Heap W l w)
    (h : ∀ p w', Heap W (Cel p #[] e :: l) w' → wpList Try.prog ops Q rest (a.put dst (.slice (some ⟨p, 0, none⟩) 0 0)) w') : wpList Try.prog ops Q (⟨dst, .buildSlice t 0 #[], ty, pos, after, guard⟩ :: rest) a w := by
  obtain ⟨i, hi, hz, hsi, hbi⟩ := T.inf
  have r1 : ∀ w, (sizeOf e).run Try.prog w = .ok i.size w := fun w => by simp [sizeOf, typeInfo, hi, go_sem]
  have r2 : ∀ w, (zeroValue e).run Try.prog w = .ok z w := fun w => by simp [zeroValue, typeInfo, hi, hz, go_sem]
  refine BigFrame.wpList_want hw fun K hK => ?_
  have hrun : (Instr.buildSlice t 0 (#[].map fun ((i, x) : Nat × Operand) => (i, a.eval x))).run Try.prog w = .ok (.slice (some ⟨w.heap.size, 0, none⟩) 0 0) (w.alloc (.cells #[] e)) := by
    unfold Instr.buildSlice
    rw [Sem.run_bind, run_underlying T.und]
    simp only [Result.andThen_ok]
    rw [Sem.run_bind, r1]
    simp only [Result.andThen_ok]
    simp [Sem.run_bind, r2, newRow, go_sem, Instr.fill]
  unfold Oper.wp execOp
  simp only [Sem.run_bind, hrun, Result.andThen_ok, Sem.run_pure]
  exact hK _ _ (h _ _ (H.alloc _ _))
end
end Go.Proofs.Ytjipelhcgglhhaa
