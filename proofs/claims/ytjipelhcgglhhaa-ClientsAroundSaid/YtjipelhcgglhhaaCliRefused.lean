/- clients.Client: Take of a letter that is refused. -/
import Derived.Test.YtjipelhcgglhhaaCliTake
namespace Go.Proofs.Ytjipelhcgglhhaa
open Go.RowKit
set_option linter.unusedSimpArgs false
set_option linter.unusedVariables false
section
variable {W w : World} {l : List Thing}
set_option maxRecDepth 100000
set_option maxHeartbeats 1000000
theorem take_shut (p : Nat) (id n to num waits k0 f0 t0 c0 n0 : Int) (s0 : Value) (is : Bool) (kind frm lto term index mark commit : Int) (yes : Bool) (entries data : Value) (cid cnum : Int) (steps : Value) (err rerr rat : Int) (got : Value)
    (hn : decide (0 < n) = true) (hid : 0 ≤ id ∧ id ≤ 8) (hf : 0 ≤ frm ∧ frm ≤ 255) (e1 : is = false) (H : Heap W (Cli p id n to num waits k0 f0 t0 c0 n0 s0 is :: l) w) :
    Calls Try.prog 9 #[.pointer (some ⟨p, 0, none⟩), .agg (letg kind frm lto term index mark commit yes entries data cid cnum steps err rerr rat got)] w fun e w' =>
      e = .returned (.tuple #[.agg (rep 0 0 (.slice none 0 0)), .bool false, .slice none 0 0]) ∧ Heap W (Cli p id n to num waits k0 f0 t0 c0 n0 s0 is :: l) w' := by
  have hw : IntKind.u8.wrap (100 + id) = 100 + id := IntWalk.u8_in _ (by omega)
  have hw1 : 0 ≤ 100 + id := by omega
  have hw2 : 100 + id ≤ 255 := by omega
  have f0 : 0 ≤ frm := by omega
  have f1 : frm ≤ 255 := by omega
  clear hid hf
  unfold Cli at *
  subst e1
  go_enter Try.func9, Try.ntmps9
  go_wp2_with (first
    | go_skip | ((with_reducible show wpList _ _ _ (_ :: _) _ _); (with_reducible apply wpl_boxRH); (· rfl); (· rfl); (· exact H); (clear H; intro px _ H); (simp only [Act.put, List.setIfInBounds_toArray, List.set_cons_zero, List.set_cons_succ]))
    | ((with_reducible show wpList _ _ _ (_ :: _) _ _); (with_reducible apply wpl_boxPH); (· rfl); (· rfl); (· exact H); (clear H; intro py _ H); (simp only [Act.put, List.setIfInBounds_toArray, List.set_cons_zero, List.set_cons_succ]))
    | ((with_reducible show wpList _ _ _ (_ :: _) _ _); (with_reducible apply wpl_allocRH row_rep); (· rfl); (· exact H); (clear H; intro pz _ H); (simp only [Act.put, List.setIfInBounds_toArray, List.set_cons_zero, List.set_cons_succ])))
  change Heap _ (_ :: _ :: Cel py (one _) _ :: _) _ at H
  refine wp_region_H H (by kernel_rfl) (by kernel_rfl) ?_
  repeat (first | go_big_quiet_skip | ((with_reducible apply wpQ_loadCH); (· first | exact cell_b8 | exact cell_u64 | exact cell_i64 | exact cell_kind | exact cell_pcli); (· rfl); (· rfl); (· (repeat (first | (with_reducible exact List.mem_cons_self) | with_reducible apply List.mem_cons_of_mem))); (· (with_reducible first | exact cli_g0 .. | exact cli_g1 .. | exact cli_g2 .. | exact cli_g3 .. | exact cli_g4 .. | exact cli_g5 .. | exact cli_g6 .. | exact cli_g7 .. | exact cli_g8 .. | exact cli_g9 .. | exact cli_g10 .. | exact cli_g11 .. | exact cli_g12 .. | exact cli_g13 .. | exact cli_g14 .. | exact cli_g15 .. | exact cli_g16 .. | exact cli_g17 .. | exact cli_g18 .. | exact cli_g19 .. | exact cli_g20 .. | exact cli_g21 .. | exact cli_g22 .. | exact letg_g0 .. | exact letg_g1 .. | exact letg_g2 .. | exact letg_g3 .. | exact letg_g4 .. | exact letg_g5 .. | exact letg_g6 .. | exact letg_g7 .. | exact letg_g8 .. | exact letg_g9 .. | exact letg_g10 .. | exact letg_g11 .. | exact letg_g12 .. | exact letg_g13 .. | exact letg_g14 .. | exact letg_g15 .. | exact letg_g16 .. | exact one_g0 ..)); (simp only [Act.put, List.setIfInBounds_toArray, List.set_cons_zero, List.set_cons_succ])) | go_big_quiet_step (exact (open_H (List.mem_cons_of_mem _ (List.mem_cons_of_mem _ (List.mem_cons_of_mem _ List.mem_cons_self))) hn).quiet))
  refine wpQuiet_nil ?_
  clear H
  intro _ H
  go_wp2_with (first
    | go_skip | ((with_reducible show wpList _ _ _ (_ :: _) _ _); (with_reducible apply wpl_loadRH row_rep); (· rfl); (· rfl); (· exact H); (· (repeat (first | (with_reducible exact List.mem_cons_self) | with_reducible apply List.mem_cons_of_mem))); (· (simp only [rep_sz, Nat.reduceAdd, Nat.reduceLeDiff, Nat.le_refl]; done)); (· with_reducible exact rep_all ..); (simp only [Act.put, List.setIfInBounds_toArray, List.set_cons_zero, List.set_cons_succ]))
    | ((with_reducible show wpList _ _ _ (_ :: _) _ _); (with_reducible apply wpl_storeRH row_rep); (· rfl); (· rfl); (· rfl); (· with_reducible exact rep_cells ..); (· exact H); (· (repeat (first | (with_reducible exact List.mem_cons_self) | with_reducible apply List.mem_cons_of_mem))); (· (simp only [rep_sz, Nat.reduceAdd, Nat.reduceLeDiff, Nat.le_refl]; done)); (· with_reducible exact rep_splice ..); (· (repeat (first | (with_reducible exact Repl.here) | with_reducible apply Repl.there))); (clear H; intro _ H); (simp only [Act.put, List.setIfInBounds_toArray, List.set_cons_zero, List.set_cons_succ])))
  exact ret_row3H row_rep rfl rfl rfl H List.mem_cons_self rfl rfl rfl ⟨rfl, H.tail.tail.tail⟩
theorem take_kind (p : Nat) (id n to num waits k0 f0 t0 c0 n0 : Int) (s0 : Value) (is : Bool) (kind frm lto term index mark commit : Int) (yes : Bool) (entries data : Value) (cid cnum : Int) (steps : Value) (err rerr rat : Int) (got : Value)
    (hn : decide (0 < n) = true) (hid : 0 ≤ id ∧ id ≤ 8) (hf : 0 ≤ frm ∧ frm ≤ 255) (e1 : is = true) (e2 : (kind != 7) = true) (H : Heap W (Cli p id n to num waits k0 f0 t0 c0 n0 s0 is :: l) w) :
    Calls Try.prog 9 #[.pointer (some ⟨p, 0, none⟩), .agg (letg kind frm lto term index mark commit yes entries data cid cnum steps err rerr rat got)] w fun e w' =>
      e = .returned (.tuple #[.agg (rep 0 0 (.slice none 0 0)), .bool false, .slice none 0 0]) ∧ Heap W (Cli p id n to num waits k0 f0 t0 c0 n0 s0 is :: l) w' := by
  have hw : IntKind.u8.wrap (100 + id) = 100 + id := IntWalk.u8_in _ (by omega)
  have hw1 : 0 ≤ 100 + id := by omega
  have hw2 : 100 + id ≤ 255 := by omega
  have f0 : 0 ≤ frm := by omega
  have f1 : frm ≤ 255 := by omega
  clear hid hf
  unfold Cli at *
  subst e1
  go_enter Try.func9, Try.ntmps9
  go_wp2_with (first
    | go_skip | ((with_reducible show wpList _ _ _ (_ :: _) _ _); (with_reducible apply wpl_boxRH); (· rfl); (· rfl); (· exact H); (clear H; intro px _ H); (simp only [Act.put, List.setIfInBounds_toArray, List.set_cons_zero, List.set_cons_succ]))
    | ((with_reducible show wpList _ _ _ (_ :: _) _ _); (with_reducible apply wpl_boxPH); (· rfl); (· rfl); (· exact H); (clear H; intro py _ H); (simp only [Act.put, List.setIfInBounds_toArray, List.set_cons_zero, List.set_cons_succ]))
    | ((with_reducible show wpList _ _ _ (_ :: _) _ _); (with_reducible apply wpl_allocRH row_rep); (· rfl); (· exact H); (clear H; intro pz _ H); (simp only [Act.put, List.setIfInBounds_toArray, List.set_cons_zero, List.set_cons_succ])))
  change Heap _ (_ :: _ :: Cel py (one _) _ :: _) _ at H
  refine wp_region_H H (by kernel_rfl) (by kernel_rfl) ?_
  repeat (first | go_big_quiet_skip | ((with_reducible apply wpQ_loadCH); (· first | exact cell_b8 | exact cell_u64 | exact cell_i64 | exact cell_kind | exact cell_pcli); (· rfl); (· rfl); (· (repeat (first | (with_reducible exact List.mem_cons_self) | with_reducible apply List.mem_cons_of_mem))); (· (with_reducible first | exact cli_g0 .. | exact cli_g1 .. | exact cli_g2 .. | exact cli_g3 .. | exact cli_g4 .. | exact cli_g5 .. | exact cli_g6 .. | exact cli_g7 .. | exact cli_g8 .. | exact cli_g9 .. | exact cli_g10 .. | exact cli_g11 .. | exact cli_g12 .. | exact cli_g13 .. | exact cli_g14 .. | exact cli_g15 .. | exact cli_g16 .. | exact cli_g17 .. | exact cli_g18 .. | exact cli_g19 .. | exact cli_g20 .. | exact cli_g21 .. | exact cli_g22 .. | exact letg_g0 .. | exact letg_g1 .. | exact letg_g2 .. | exact letg_g3 .. | exact letg_g4 .. | exact letg_g5 .. | exact letg_g6 .. | exact letg_g7 .. | exact letg_g8 .. | exact letg_g9 .. | exact letg_g10 .. | exact letg_g11 .. | exact letg_g12 .. | exact letg_g13 .. | exact letg_g14 .. | exact letg_g15 .. | exact letg_g16 .. | exact one_g0 ..)); (simp only [Act.put, List.setIfInBounds_toArray, List.set_cons_zero, List.set_cons_succ])) | go_big_quiet_step (exact (open_H (List.mem_cons_of_mem _ (List.mem_cons_of_mem _ (List.mem_cons_of_mem _ List.mem_cons_self))) hn).quiet))
  refine wpQuiet_nil ?_
  clear H
  intro _ H
  go_wp2_with (first
    | go_skip | ((with_reducible show wpList _ _ _ (_ :: _) _ _); (with_reducible apply wpl_loadRH row_rep); (· rfl); (· rfl); (· exact H); (· (repeat (first | (with_reducible exact List.mem_cons_self) | with_reducible apply List.mem_cons_of_mem))); (· (simp only [rep_sz, Nat.reduceAdd, Nat.reduceLeDiff, Nat.le_refl]; done)); (· with_reducible exact rep_all ..); (simp only [Act.put, List.setIfInBounds_toArray, List.set_cons_zero, List.set_cons_succ]))
    | ((with_reducible show wpList _ _ _ (_ :: _) _ _); (with_reducible apply wpl_storeRH row_rep); (· rfl); (· rfl); (· rfl); (· with_reducible exact rep_cells ..); (· exact H); (· (repeat (first | (with_reducible exact List.mem_cons_self) | with_reducible apply List.mem_cons_of_mem))); (· (simp only [rep_sz, Nat.reduceAdd, Nat.reduceLeDiff, Nat.le_refl]; done)); (· with_reducible exact rep_splice ..); (· (repeat (first | (with_reducible exact Repl.here) | with_reducible apply Repl.there))); (clear H; intro _ H); (simp only [Act.put, List.setIfInBounds_toArray, List.set_cons_zero, List.set_cons_succ])))
  exact ret_row3H row_rep rfl rfl rfl H List.mem_cons_self rfl rfl rfl ⟨rfl, H.tail.tail.tail⟩
theorem take_lto (p : Nat) (id n to num waits k0 f0 t0 c0 n0 : Int) (s0 : Value) (is : Bool) (kind frm lto term index mark commit : Int) (yes : Bool) (entries data : Value) (cid cnum : Int) (steps : Value) (err rerr rat : Int) (got : Value)
    (hn : decide (0 < n) = true) (hid : 0 ≤ id ∧ id ≤ 8) (hf : 0 ≤ frm ∧ frm ≤ 255) (e1 : is = true) (e2 : (kind != 7) = false) (e3 : (lto != 100 + id) = true) (H : Heap W (Cli p id n to num waits k0 f0 t0 c0 n0 s0 is :: l) w) :
    Calls Try.prog 9 #[.pointer (some ⟨p, 0, none⟩), .agg (letg kind frm lto term index mark commit yes entries data cid cnum steps err rerr rat got)] w fun e w' =>
      e = .returned (.tuple #[.agg (rep 0 0 (.slice none 0 0)), .bool false, .slice none 0 0]) ∧ Heap W (Cli p id n to num waits k0 f0 t0 c0 n0 s0 is :: l) w' := by
  have hw : IntKind.u8.wrap (100 + id) = 100 + id := IntWalk.u8_in _ (by omega)
  have hw1 : 0 ≤ 100 + id := by omega
  have hw2 : 100 + id ≤ 255 := by omega
  have f0 : 0 ≤ frm := by omega
  have f1 : frm ≤ 255 := by omega
  clear hid hf
  unfold Cli at *
  subst e1
  go_enter Try.func9, Try.ntmps9
  go_wp2_with (first
    | go_skip | ((with_reducible show wpList _ _ _ (_ :: _) _ _); (with_reducible apply wpl_boxRH); (· rfl); (· rfl); (· exact H); (clear H; intro px _ H); (simp only [Act.put, List.setIfInBounds_toArray, List.set_cons_zero, List.set_cons_succ]))
    | ((with_reducible show wpList _ _ _ (_ :: _) _ _); (with_reducible apply wpl_boxPH); (· rfl); (· rfl); (· exact H); (clear H; intro py _ H); (simp only [Act.put, List.setIfInBounds_toArray, List.set_cons_zero, List.set_cons_succ]))
    | ((with_reducible show wpList _ _ _ (_ :: _) _ _); (with_reducible apply wpl_allocRH row_rep); (· rfl); (· exact H); (clear H; intro pz _ H); (simp only [Act.put, List.setIfInBounds_toArray, List.set_cons_zero, List.set_cons_succ])))
  change Heap _ (_ :: _ :: Cel py (one _) _ :: _) _ at H
  refine wp_region_H H (by kernel_rfl) (by kernel_rfl) ?_
  repeat (first | go_big_quiet_skip | ((with_reducible apply wpQ_loadCH); (· first | exact cell_b8 | exact cell_u64 | exact cell_i64 | exact cell_kind | exact cell_pcli); (· rfl); (· rfl); (· (repeat (first | (with_reducible exact List.mem_cons_self) | with_reducible apply List.mem_cons_of_mem))); (· (with_reducible first | exact cli_g0 .. | exact cli_g1 .. | exact cli_g2 .. | exact cli_g3 .. | exact cli_g4 .. | exact cli_g5 .. | exact cli_g6 .. | exact cli_g7 .. | exact cli_g8 .. | exact cli_g9 .. | exact cli_g10 .. | exact cli_g11 .. | exact cli_g12 .. | exact cli_g13 .. | exact cli_g14 .. | exact cli_g15 .. | exact cli_g16 .. | exact cli_g17 .. | exact cli_g18 .. | exact cli_g19 .. | exact cli_g20 .. | exact cli_g21 .. | exact cli_g22 .. | exact letg_g0 .. | exact letg_g1 .. | exact letg_g2 .. | exact letg_g3 .. | exact letg_g4 .. | exact letg_g5 .. | exact letg_g6 .. | exact letg_g7 .. | exact letg_g8 .. | exact letg_g9 .. | exact letg_g10 .. | exact letg_g11 .. | exact letg_g12 .. | exact letg_g13 .. | exact letg_g14 .. | exact letg_g15 .. | exact letg_g16 .. | exact one_g0 ..)); (simp only [Act.put, List.setIfInBounds_toArray, List.set_cons_zero, List.set_cons_succ])) | go_big_quiet_step (exact (open_H (List.mem_cons_of_mem _ (List.mem_cons_of_mem _ (List.mem_cons_of_mem _ List.mem_cons_self))) hn).quiet))
  refine wpQuiet_nil ?_
  clear H
  intro _ H
  go_wp2_with (first
    | go_skip | ((with_reducible show wpList _ _ _ (_ :: _) _ _); (with_reducible apply wpl_loadRH row_rep); (· rfl); (· rfl); (· exact H); (· (repeat (first | (with_reducible exact List.mem_cons_self) | with_reducible apply List.mem_cons_of_mem))); (· (simp only [rep_sz, Nat.reduceAdd, Nat.reduceLeDiff, Nat.le_refl]; done)); (· with_reducible exact rep_all ..); (simp only [Act.put, List.setIfInBounds_toArray, List.set_cons_zero, List.set_cons_succ]))
    | ((with_reducible show wpList _ _ _ (_ :: _) _ _); (with_reducible apply wpl_storeRH row_rep); (· rfl); (· rfl); (· rfl); (· with_reducible exact rep_cells ..); (· exact H); (· (repeat (first | (with_reducible exact List.mem_cons_self) | with_reducible apply List.mem_cons_of_mem))); (· (simp only [rep_sz, Nat.reduceAdd, Nat.reduceLeDiff, Nat.le_refl]; done)); (· with_reducible exact rep_splice ..); (· (repeat (first | (with_reducible exact Repl.here) | with_reducible apply Repl.there))); (clear H; intro _ H); (simp only [Act.put, List.setIfInBounds_toArray, List.set_cons_zero, List.set_cons_succ])))
  exact ret_row3H row_rep rfl rfl rfl H List.mem_cons_self rfl rfl rfl ⟨rfl, H.tail.tail.tail⟩
theorem take_cid (p : Nat) (id n to num waits k0 f0 t0 c0 n0 : Int) (s0 : Value) (is : Bool) (kind frm lto term index mark commit : Int) (yes : Bool) (entries data : Value) (cid cnum : Int) (steps : Value) (err rerr rat : Int) (got : Value)
    (hn : decide (0 < n) = true) (hid : 0 ≤ id ∧ id ≤ 8) (hf : 0 ≤ frm ∧ frm ≤ 255) (e1 : is = true) (e2 : (kind != 7) = false) (e3 : (lto != 100 + id) = false) (e4 : (cid != id) = true) (H : Heap W (Cli p id n to num waits k0 f0 t0 c0 n0 s0 is :: l) w) :
    Calls Try.prog 9 #[.pointer (some ⟨p, 0, none⟩), .agg (letg kind frm lto term index mark commit yes entries data cid cnum steps err rerr rat got)] w fun e w' =>
      e = .returned (.tuple #[.agg (rep 0 0 (.slice none 0 0)), .bool false, .slice none 0 0]) ∧ Heap W (Cli p id n to num waits k0 f0 t0 c0 n0 s0 is :: l) w' := by
  have hw : IntKind.u8.wrap (100 + id) = 100 + id := IntWalk.u8_in _ (by omega)
  have hw1 : 0 ≤ 100 + id := by omega
  have hw2 : 100 + id ≤ 255 := by omega
  have f0 : 0 ≤ frm := by omega
  have f1 : frm ≤ 255 := by omega
  clear hid hf
  unfold Cli at *
  subst e1
  go_enter Try.func9, Try.ntmps9
  go_wp2_with (first
    | go_skip | ((with_reducible show wpList _ _ _ (_ :: _) _ _); (with_reducible apply wpl_boxRH); (· rfl); (· rfl); (· exact H); (clear H; intro px _ H); (simp only [Act.put, List.setIfInBounds_toArray, List.set_cons_zero, List.set_cons_succ]))
    | ((with_reducible show wpList _ _ _ (_ :: _) _ _); (with_reducible apply wpl_boxPH); (· rfl); (· rfl); (· exact H); (clear H; intro py _ H); (simp only [Act.put, List.setIfInBounds_toArray, List.set_cons_zero, List.set_cons_succ]))
    | ((with_reducible show wpList _ _ _ (_ :: _) _ _); (with_reducible apply wpl_allocRH row_rep); (· rfl); (· exact H); (clear H; intro pz _ H); (simp only [Act.put, List.setIfInBounds_toArray, List.set_cons_zero, List.set_cons_succ])))
  change Heap _ (_ :: _ :: Cel py (one _) _ :: _) _ at H
  refine wp_region_H H (by kernel_rfl) (by kernel_rfl) ?_
  repeat (first | go_big_quiet_skip | ((with_reducible apply wpQ_loadCH); (· first | exact cell_b8 | exact cell_u64 | exact cell_i64 | exact cell_kind | exact cell_pcli); (· rfl); (· rfl); (· (repeat (first | (with_reducible exact List.mem_cons_self) | with_reducible apply List.mem_cons_of_mem))); (· (with_reducible first | exact cli_g0 .. | exact cli_g1 .. | exact cli_g2 .. | exact cli_g3 .. | exact cli_g4 .. | exact cli_g5 .. | exact cli_g6 .. | exact cli_g7 .. | exact cli_g8 .. | exact cli_g9 .. | exact cli_g10 .. | exact cli_g11 .. | exact cli_g12 .. | exact cli_g13 .. | exact cli_g14 .. | exact cli_g15 .. | exact cli_g16 .. | exact cli_g17 .. | exact cli_g18 .. | exact cli_g19 .. | exact cli_g20 .. | exact cli_g21 .. | exact cli_g22 .. | exact letg_g0 .. | exact letg_g1 .. | exact letg_g2 .. | exact letg_g3 .. | exact letg_g4 .. | exact letg_g5 .. | exact letg_g6 .. | exact letg_g7 .. | exact letg_g8 .. | exact letg_g9 .. | exact letg_g10 .. | exact letg_g11 .. | exact letg_g12 .. | exact letg_g13 .. | exact letg_g14 .. | exact letg_g15 .. | exact letg_g16 .. | exact one_g0 ..)); (simp only [Act.put, List.setIfInBounds_toArray, List.set_cons_zero, List.set_cons_succ])) | go_big_quiet_step (exact (open_H (List.mem_cons_of_mem _ (List.mem_cons_of_mem _ (List.mem_cons_of_mem _ List.mem_cons_self))) hn).quiet))
  refine wpQuiet_nil ?_
  clear H
  intro _ H
  go_wp2_with (first
    | go_skip | ((with_reducible show wpList _ _ _ (_ :: _) _ _); (with_reducible apply wpl_loadRH row_rep); (· rfl); (· rfl); (· exact H); (· (repeat (first | (with_reducible exact List.mem_cons_self) | with_reducible apply List.mem_cons_of_mem))); (· (simp only [rep_sz, Nat.reduceAdd, Nat.reduceLeDiff, Nat.le_refl]; done)); (· with_reducible exact rep_all ..); (simp only [Act.put, List.setIfInBounds_toArray, List.set_cons_zero, List.set_cons_succ]))
    | ((with_reducible show wpList _ _ _ (_ :: _) _ _); (with_reducible apply wpl_storeRH row_rep); (· rfl); (· rfl); (· rfl); (· with_reducible exact rep_cells ..); (· exact H); (· (repeat (first | (with_reducible exact List.mem_cons_self) | with_reducible apply List.mem_cons_of_mem))); (· (simp only [rep_sz, Nat.reduceAdd, Nat.reduceLeDiff, Nat.le_refl]; done)); (· with_reducible exact rep_splice ..); (· (repeat (first | (with_reducible exact Repl.here) | with_reducible apply Repl.there))); (clear H; intro _ H); (simp only [Act.put, List.setIfInBounds_toArray, List.set_cons_zero, List.set_cons_succ])))
  exact ret_row3H row_rep rfl rfl rfl H List.mem_cons_self rfl rfl rfl ⟨rfl, H.tail.tail.tail⟩
theorem take_num (p : Nat) (id n to num waits k0 f0 t0 c0 n0 : Int) (s0 : Value) (is : Bool) (kind frm lto term index mark commit : Int) (yes : Bool) (entries data : Value) (cid cnum : Int) (steps : Value) (err rerr rat : Int) (got : Value)
    (hn : decide (0 < n) = true) (hid : 0 ≤ id ∧ id ≤ 8) (hf : 0 ≤ frm ∧ frm ≤ 255) (e1 : is = true) (e2 : (kind != 7) = false) (e3 : (lto != 100 + id) = false) (e4 : (cid != id) = false) (e5 : (cnum != num) = true) (H : Heap W (Cli p id n to num waits k0 f0 t0 c0 n0 s0 is :: l) w) :
    Calls Try.prog 9 #[.pointer (some ⟨p, 0, none⟩), .agg (letg kind frm lto term index mark commit yes entries data cid cnum steps err rerr rat got)] w fun e w' =>
      e = .returned (.tuple #[.agg (rep 0 0 (.slice none 0 0)), .bool false, .slice none 0 0]) ∧ Heap W (Cli p id n to num waits k0 f0 t0 c0 n0 s0 is :: l) w' := by
  have hw : IntKind.u8.wrap (100 + id) = 100 + id := IntWalk.u8_in _ (by omega)
  have hw1 : 0 ≤ 100 + id := by omega
  have hw2 : 100 + id ≤ 255 := by omega
  have f0 : 0 ≤ frm := by omega
  have f1 : frm ≤ 255 := by omega
  clear hid hf
  unfold Cli at *
  subst e1
  go_enter Try.func9, Try.ntmps9
  go_wp2_with (first
    | go_skip | ((with_reducible show wpList _ _ _ (_ :: _) _ _); (with_reducible apply wpl_boxRH); (· rfl); (· rfl); (· exact H); (clear H; intro px _ H); (simp only [Act.put, List.setIfInBounds_toArray, List.set_cons_zero, List.set_cons_succ]))
    | ((with_reducible show wpList _ _ _ (_ :: _) _ _); (with_reducible apply wpl_boxPH); (· rfl); (· rfl); (· exact H); (clear H; intro py _ H); (simp only [Act.put, List.setIfInBounds_toArray, List.set_cons_zero, List.set_cons_succ]))
    | ((with_reducible show wpList _ _ _ (_ :: _) _ _); (with_reducible apply wpl_allocRH row_rep); (· rfl); (· exact H); (clear H; intro pz _ H); (simp only [Act.put, List.setIfInBounds_toArray, List.set_cons_zero, List.set_cons_succ])))
  change Heap _ (_ :: _ :: Cel py (one _) _ :: _) _ at H
  refine wp_region_H H (by kernel_rfl) (by kernel_rfl) ?_
  repeat (first | go_big_quiet_skip | ((with_reducible apply wpQ_loadCH); (· first | exact cell_b8 | exact cell_u64 | exact cell_i64 | exact cell_kind | exact cell_pcli); (· rfl); (· rfl); (· (repeat (first | (with_reducible exact List.mem_cons_self) | with_reducible apply List.mem_cons_of_mem))); (· (with_reducible first | exact cli_g0 .. | exact cli_g1 .. | exact cli_g2 .. | exact cli_g3 .. | exact cli_g4 .. | exact cli_g5 .. | exact cli_g6 .. | exact cli_g7 .. | exact cli_g8 .. | exact cli_g9 .. | exact cli_g10 .. | exact cli_g11 .. | exact cli_g12 .. | exact cli_g13 .. | exact cli_g14 .. | exact cli_g15 .. | exact cli_g16 .. | exact cli_g17 .. | exact cli_g18 .. | exact cli_g19 .. | exact cli_g20 .. | exact cli_g21 .. | exact cli_g22 .. | exact letg_g0 .. | exact letg_g1 .. | exact letg_g2 .. | exact letg_g3 .. | exact letg_g4 .. | exact letg_g5 .. | exact letg_g6 .. | exact letg_g7 .. | exact letg_g8 .. | exact letg_g9 .. | exact letg_g10 .. | exact letg_g11 .. | exact letg_g12 .. | exact letg_g13 .. | exact letg_g14 .. | exact letg_g15 .. | exact letg_g16 .. | exact one_g0 ..)); (simp only [Act.put, List.setIfInBounds_toArray, List.set_cons_zero, List.set_cons_succ])) | go_big_quiet_step (exact (open_H (List.mem_cons_of_mem _ (List.mem_cons_of_mem _ (List.mem_cons_of_mem _ List.mem_cons_self))) hn).quiet))
  refine wpQuiet_nil ?_
  clear H
  intro _ H
  go_wp2_with (first
    | go_skip | ((with_reducible show wpList _ _ _ (_ :: _) _ _); (with_reducible apply wpl_loadRH row_rep); (· rfl); (· rfl); (· exact H); (· (repeat (first | (with_reducible exact List.mem_cons_self) | with_reducible apply List.mem_cons_of_mem))); (· (simp only [rep_sz, Nat.reduceAdd, Nat.reduceLeDiff, Nat.le_refl]; done)); (· with_reducible exact rep_all ..); (simp only [Act.put, List.setIfInBounds_toArray, List.set_cons_zero, List.set_cons_succ]))
    | ((with_reducible show wpList _ _ _ (_ :: _) _ _); (with_reducible apply wpl_storeRH row_rep); (· rfl); (· rfl); (· rfl); (· with_reducible exact rep_cells ..); (· exact H); (· (repeat (first | (with_reducible exact List.mem_cons_self) | with_reducible apply List.mem_cons_of_mem))); (· (simp only [rep_sz, Nat.reduceAdd, Nat.reduceLeDiff, Nat.le_refl]; done)); (· with_reducible exact rep_splice ..); (· (repeat (first | (with_reducible exact Repl.here) | with_reducible apply Repl.there))); (clear H; intro _ H); (simp only [Act.put, List.setIfInBounds_toArray, List.set_cons_zero, List.set_cons_succ])))
  exact ret_row3H row_rep rfl rfl rfl H List.mem_cons_self rfl rfl rfl ⟨rfl, H.tail.tail.tail⟩
theorem take_low (p : Nat) (id n to num waits k0 f0 t0 c0 n0 : Int) (s0 : Value) (is : Bool) (kind frm lto term index mark commit : Int) (yes : Bool) (entries data : Value) (cid cnum : Int) (steps : Value) (err rerr rat : Int) (got : Value)
    (hn : decide (0 < n) = true) (hid : 0 ≤ id ∧ id ≤ 8) (hf : 0 ≤ frm ∧ frm ≤ 255) (e1 : is = true) (e2 : (kind != 7) = false) (e3 : (lto != 100 + id) = false) (e4 : (cid != id) = false) (e5 : (cnum != num) = false) (e6 : decide (frm < 1) = true) (H : Heap W (Cli p id n to num waits k0 f0 t0 c0 n0 s0 is :: l) w) :
    Calls Try.prog 9 #[.pointer (some ⟨p, 0, none⟩), .agg (letg kind frm lto term index mark commit yes entries data cid cnum steps err rerr rat got)] w fun e w' =>
      e = .returned (.tuple #[.agg (rep 0 0 (.slice none 0 0)), .bool false, .slice none 0 0]) ∧ Heap W (Cli p id n to num waits k0 f0 t0 c0 n0 s0 is :: l) w' := by
  have hw : IntKind.u8.wrap (100 + id) = 100 + id := IntWalk.u8_in _ (by omega)
  have hw1 : 0 ≤ 100 + id := by omega
  have hw2 : 100 + id ≤ 255 := by omega
  have f0 : 0 ≤ frm := by omega
  have f1 : frm ≤ 255 := by omega
  clear hid hf
  unfold Cli at *
  subst e1
  go_enter Try.func9, Try.ntmps9
  go_wp2_with (first
    | go_skip | ((with_reducible show wpList _ _ _ (_ :: _) _ _); (with_reducible apply wpl_boxRH); (· rfl); (· rfl); (· exact H); (clear H; intro px _ H); (simp only [Act.put, List.setIfInBounds_toArray, List.set_cons_zero, List.set_cons_succ]))
    | ((with_reducible show wpList _ _ _ (_ :: _) _ _); (with_reducible apply wpl_boxPH); (· rfl); (· rfl); (· exact H); (clear H; intro py _ H); (simp only [Act.put, List.setIfInBounds_toArray, List.set_cons_zero, List.set_cons_succ]))
    | ((with_reducible show wpList _ _ _ (_ :: _) _ _); (with_reducible apply wpl_allocRH row_rep); (· rfl); (· exact H); (clear H; intro pz _ H); (simp only [Act.put, List.setIfInBounds_toArray, List.set_cons_zero, List.set_cons_succ])))
  change Heap _ (_ :: _ :: Cel py (one _) _ :: _) _ at H
  refine wp_region_H H (by kernel_rfl) (by kernel_rfl) ?_
  repeat (first | go_big_quiet_skip | ((with_reducible apply wpQ_loadCH); (· first | exact cell_b8 | exact cell_u64 | exact cell_i64 | exact cell_kind | exact cell_pcli); (· rfl); (· rfl); (· (repeat (first | (with_reducible exact List.mem_cons_self) | with_reducible apply List.mem_cons_of_mem))); (· (with_reducible first | exact cli_g0 .. | exact cli_g1 .. | exact cli_g2 .. | exact cli_g3 .. | exact cli_g4 .. | exact cli_g5 .. | exact cli_g6 .. | exact cli_g7 .. | exact cli_g8 .. | exact cli_g9 .. | exact cli_g10 .. | exact cli_g11 .. | exact cli_g12 .. | exact cli_g13 .. | exact cli_g14 .. | exact cli_g15 .. | exact cli_g16 .. | exact cli_g17 .. | exact cli_g18 .. | exact cli_g19 .. | exact cli_g20 .. | exact cli_g21 .. | exact cli_g22 .. | exact letg_g0 .. | exact letg_g1 .. | exact letg_g2 .. | exact letg_g3 .. | exact letg_g4 .. | exact letg_g5 .. | exact letg_g6 .. | exact letg_g7 .. | exact letg_g8 .. | exact letg_g9 .. | exact letg_g10 .. | exact letg_g11 .. | exact letg_g12 .. | exact letg_g13 .. | exact letg_g14 .. | exact letg_g15 .. | exact letg_g16 .. | exact one_g0 ..)); (simp only [Act.put, List.setIfInBounds_toArray, List.set_cons_zero, List.set_cons_succ])) | go_big_quiet_step (exact (open_H (List.mem_cons_of_mem _ (List.mem_cons_of_mem _ (List.mem_cons_of_mem _ List.mem_cons_self))) hn).quiet))
  refine wpQuiet_nil ?_
  clear H
  intro _ H
  go_wp2_with (first
    | go_skip | ((with_reducible show wpList _ _ _ (_ :: _) _ _); (with_reducible apply wpl_loadRH row_rep); (· rfl); (· rfl); (· exact H); (· (repeat (first | (with_reducible exact List.mem_cons_self) | with_reducible apply List.mem_cons_of_mem))); (· (simp only [rep_sz, Nat.reduceAdd, Nat.reduceLeDiff, Nat.le_refl]; done)); (· with_reducible exact rep_all ..); (simp only [Act.put, List.setIfInBounds_toArray, List.set_cons_zero, List.set_cons_succ]))
    | ((with_reducible show wpList _ _ _ (_ :: _) _ _); (with_reducible apply wpl_storeRH row_rep); (· rfl); (· rfl); (· rfl); (· with_reducible exact rep_cells ..); (· exact H); (· (repeat (first | (with_reducible exact List.mem_cons_self) | with_reducible apply List.mem_cons_of_mem))); (· (simp only [rep_sz, Nat.reduceAdd, Nat.reduceLeDiff, Nat.le_refl]; done)); (· with_reducible exact rep_splice ..); (· (repeat (first | (with_reducible exact Repl.here) | with_reducible apply Repl.there))); (clear H; intro _ H); (simp only [Act.put, List.setIfInBounds_toArray, List.set_cons_zero, List.set_cons_succ])))
  exact ret_row3H row_rep rfl rfl rfl H List.mem_cons_self rfl rfl rfl ⟨rfl, H.tail.tail.tail⟩
theorem take_high (p : Nat) (id n to num waits k0 f0 t0 c0 n0 : Int) (s0 : Value) (is : Bool) (kind frm lto term index mark commit : Int) (yes : Bool) (entries data : Value) (cid cnum : Int) (steps : Value) (err rerr rat : Int) (got : Value)
    (hn : decide (0 < n) = true) (hid : 0 ≤ id ∧ id ≤ 8) (hf : 0 ≤ frm ∧ frm ≤ 255) (e1 : is = true) (e2 : (kind != 7) = false) (e3 : (lto != 100 + id) = false) (e4 : (cid != id) = false) (e5 : (cnum != num) = false) (e6 : decide (frm < 1) = false) (e7 : decide (n < frm) = true) (H : Heap W (Cli p id n to num waits k0 f0 t0 c0 n0 s0 is :: l) w) :
    Calls Try.prog 9 #[.pointer (some ⟨p, 0, none⟩), .agg (letg kind frm lto term index mark commit yes entries data cid cnum steps err rerr rat got)] w fun e w' =>
      e = .returned (.tuple #[.agg (rep 0 0 (.slice none 0 0)), .bool false, .slice none 0 0]) ∧ Heap W (Cli p id n to num waits k0 f0 t0 c0 n0 s0 is :: l) w' := by
  have hw : IntKind.u8.wrap (100 + id) = 100 + id := IntWalk.u8_in _ (by omega)
  have hw1 : 0 ≤ 100 + id := by omega
  have hw2 : 100 + id ≤ 255 := by omega
  have f0 : 0 ≤ frm := by omega
  have f1 : frm ≤ 255 := by omega
  clear hid hf
  unfold Cli at *
  subst e1
  go_enter Try.func9, Try.ntmps9
  go_wp2_with (first
    | go_skip | ((with_reducible show wpList _ _ _ (_ :: _) _ _); (with_reducible apply wpl_boxRH); (· rfl); (· rfl); (· exact H); (clear H; intro px _ H); (simp only [Act.put, List.setIfInBounds_toArray, List.set_cons_zero, List.set_cons_succ]))
    | ((with_reducible show wpList _ _ _ (_ :: _) _ _); (with_reducible apply wpl_boxPH); (· rfl); (· rfl); (· exact H); (clear H; intro py _ H); (simp only [Act.put, List.setIfInBounds_toArray, List.set_cons_zero, List.set_cons_succ]))
    | ((with_reducible show wpList _ _ _ (_ :: _) _ _); (with_reducible apply wpl_allocRH row_rep); (· rfl); (· exact H); (clear H; intro pz _ H); (simp only [Act.put, List.setIfInBounds_toArray, List.set_cons_zero, List.set_cons_succ])))
  change Heap _ (_ :: _ :: Cel py (one _) _ :: _) _ at H
  refine wp_region_H H (by kernel_rfl) (by kernel_rfl) ?_
  repeat (first | go_big_quiet_skip | ((with_reducible apply wpQ_loadCH); (· first | exact cell_b8 | exact cell_u64 | exact cell_i64 | exact cell_kind | exact cell_pcli); (· rfl); (· rfl); (· (repeat (first | (with_reducible exact List.mem_cons_self) | with_reducible apply List.mem_cons_of_mem))); (· (with_reducible first | exact cli_g0 .. | exact cli_g1 .. | exact cli_g2 .. | exact cli_g3 .. | exact cli_g4 .. | exact cli_g5 .. | exact cli_g6 .. | exact cli_g7 .. | exact cli_g8 .. | exact cli_g9 .. | exact cli_g10 .. | exact cli_g11 .. | exact cli_g12 .. | exact cli_g13 .. | exact cli_g14 .. | exact cli_g15 .. | exact cli_g16 .. | exact cli_g17 .. | exact cli_g18 .. | exact cli_g19 .. | exact cli_g20 .. | exact cli_g21 .. | exact cli_g22 .. | exact letg_g0 .. | exact letg_g1 .. | exact letg_g2 .. | exact letg_g3 .. | exact letg_g4 .. | exact letg_g5 .. | exact letg_g6 .. | exact letg_g7 .. | exact letg_g8 .. | exact letg_g9 .. | exact letg_g10 .. | exact letg_g11 .. | exact letg_g12 .. | exact letg_g13 .. | exact letg_g14 .. | exact letg_g15 .. | exact letg_g16 .. | exact one_g0 ..)); (simp only [Act.put, List.setIfInBounds_toArray, List.set_cons_zero, List.set_cons_succ])) | go_big_quiet_step (exact (open_H (List.mem_cons_of_mem _ (List.mem_cons_of_mem _ (List.mem_cons_of_mem _ List.mem_cons_self))) hn).quiet))
  refine wpQuiet_nil ?_
  clear H
  intro _ H
  go_wp2_with (first
    | go_skip | ((with_reducible show wpList _ _ _ (_ :: _) _ _); (with_reducible apply wpl_loadRH row_rep); (· rfl); (· rfl); (· exact H); (· (repeat (first | (with_reducible exact List.mem_cons_self) | with_reducible apply List.mem_cons_of_mem))); (· (simp only [rep_sz, Nat.reduceAdd, Nat.reduceLeDiff, Nat.le_refl]; done)); (· with_reducible exact rep_all ..); (simp only [Act.put, List.setIfInBounds_toArray, List.set_cons_zero, List.set_cons_succ]))
    | ((with_reducible show wpList _ _ _ (_ :: _) _ _); (with_reducible apply wpl_storeRH row_rep); (· rfl); (· rfl); (· rfl); (· with_reducible exact rep_cells ..); (· exact H); (· (repeat (first | (with_reducible exact List.mem_cons_self) | with_reducible apply List.mem_cons_of_mem))); (· (simp only [rep_sz, Nat.reduceAdd, Nat.reduceLeDiff, Nat.le_refl]; done)); (· with_reducible exact rep_splice ..); (· (repeat (first | (with_reducible exact Repl.here) | with_reducible apply Repl.there))); (clear H; intro _ H); (simp only [Act.put, List.setIfInBounds_toArray, List.set_cons_zero, List.set_cons_succ])))
  exact ret_row3H row_rep rfl rfl rfl H List.mem_cons_self rfl rfl rfl ⟨rfl, H.tail.tail.tail⟩
end
end Go.Proofs.Ytjipelhcgglhhaa
