/- Part 5 of what ProofClientsPlay stands on: Take27, Great27. -/
import Derived.Test.YtjipelhcgglhhaaCliPPart4
/- countinghouseref27's Take; clients.Client's Take, what was left: an error, the leader, a reply with gots; Other. -/
namespace Go.Proofs.Ytjipelhcgglhhaa
open Go.RowKit
set_option linter.unusedSimpArgs false
set_option linter.unusedVariables false
theorem repz_cells : Cells 3 #[.int .i64 0, .int .i64 0, .slice none 0 0] := ⟨rfl, by simp [Value.oneCell']⟩
theorem repz_splice (a b : Int) (g : Value) : splice (rep a b g) 0 #[.int .i64 0, .int .i64 0, .slice none 0 0] = rep 0 0 (.slice none 0 0) := splice_all rfl
section
variable {W w : World} {l : List Thing} {lo : List Oper} {loud : List Nat} {K : List Thing → Act → Prop}
theorem wpK_storeR {T N : Nat} {z : Array Value} {k : Nat} {ks : List Nat} {base base' l : List Thing} {a : Act} {dst : Option Tmp} {ty : TypeId} {pos : String} {after : Array Edge} {guard : Option (Nat × Bool)} {x y : Operand} {b off : Nat} {c2 : Array Value} (RT : RowTy T N z) (ho : lo[k]? = some ⟨dst, .store T x y, ty, pos, after, guard⟩) (hk : loud.contains k = true) (hw : Region.wanted ⟨dst, .store T x y, ty, pos, after, guard⟩ (yielded lo.toArray a.tmps) = true) (hx : a.eval x = .pointer (some ⟨b, off, none⟩)) (hy : a.eval y = .agg c2) (hc : Cells N c2)
    {c c1 : Array Value} {t : TypeId} {l' : List Thing} (m : Cel b c t ∈ l) (hn : off + N ≤ c.size) (hs : splice c off c2 = c1) (r : Repl l (Cel b c t) (Cel b c1 t) l') (h1 : Keeps base base') (h2 : Keeps base' l')
    (h : wpK Try.prog lo.toArray W loud K ks base' l' (a.put dst undef)) : wpK Try.prog lo.toArray W loud K (k :: ks) base l a := by
  subst hs
  refine wpK_loud ho hk ⟨hw, fun w H => .inl ⟨l', undef, setBlk w b (splice c off c2), .inr ⟨?_, rfl⟩, H.set r, base', h1, h2, h⟩⟩
  unfold execOp
  simp only [hx, hy, Sem.run_bind, run_storeR RT hc (H.blk m) hn, Result.andThen_ok]
  rfl
end
section
variable {W w : World} {l : List Thing}
set_option maxRecDepth 100000
set_option maxHeartbeats 1000000
theorem rtake_shut (p : Nat) (id n to num waits : Int) (s : Value) (op : Bool) (kind frm lto term index mark commit : Int) (yes : Bool) (entries data : Value) (cid cnum : Int) (steps : Value) (err rerr rat : Int) (got : Value)
    (hid : 0 ≤ id ∧ id ≤ 8) (hf : 0 ≤ frm ∧ frm ≤ 255) (e1 : op = false) (H : Heap W (RCl p id n to num op s waits :: l) w) :
    Calls Try.prog 22 #[.pointer (some ⟨p, 0, none⟩), .agg (rlet kind frm lto term index mark commit yes entries data cid cnum steps err rerr rat got)] w fun e w' =>
      e = .returned (.tuple #[.agg (rep 0 0 (.slice none 0 0)), .bool false, .slice none 0 0]) ∧ Heap W (RCl p id n to num op s waits :: l) w' := by
  have hw : IntKind.u8.wrap (100 + id) = 100 + id := IntWalk.u8_in _ (by omega)
  have hw1 : 0 ≤ 100 + id := by omega
  have hw2 : 100 + id ≤ 255 := by omega
  have f0 : 0 ≤ frm := by omega
  have f1 : frm ≤ 255 := by omega
  clear hid hf
  subst e1
  go_enter Try.func22, Try.ntmps22
  go_wp2_with (first | go_skip | ((with_reducible show wpList _ _ _ (_ :: _) _ _); (with_reducible apply wpl_boxRH); (· rfl); (· rfl); (· exact H); (clear H; intro px _ H); (simp only [Act.put, List.setIfInBounds_toArray, List.set_cons_zero, List.set_cons_succ])) | ((with_reducible show wpList _ _ _ (_ :: _) _ _); (with_reducible apply wpl_allocRH row_rep); (· rfl); (· exact H); (clear H; intro pz _ H); (simp only [Act.put, List.setIfInBounds_toArray, List.set_cons_zero, List.set_cons_succ])))
  refine wp_region_H H (by kernel_rfl) (by kernel_rfl) ?_
  repeat (first | go_big_quiet_skip | ((with_reducible apply wpQ_loadCH); (· first | exact cell_b8 | exact cell_u64 | exact cell_i64 | exact cell_bool); (· rfl); (· rfl); (· (repeat (first | (with_reducible exact List.mem_cons_self) | with_reducible apply List.mem_cons_of_mem))); (· (with_reducible first | exact rcl_g0 .. | exact rcl_g1 .. | exact rcl_g2 .. | exact rcl_g3 .. | exact rcl_g4 .. | exact rcl_g5 .. | exact rcl_g6 .. | exact rlet_g0 .. | exact rlet_g1 .. | exact rlet_g2 .. | exact rlet_g3 .. | exact rlet_g4 .. | exact rlet_g5 .. | exact rlet_g6 .. | exact rlet_g7 .. | exact rlet_g8 .. | exact rlet_g9 .. | exact rlet_g10 .. | exact rlet_g11 .. | exact rlet_g12 .. | exact rlet_g13 .. | exact rlet_g14 .. | exact rlet_g15 .. | exact rlet_g16 ..)); (simp only [Act.put, List.setIfInBounds_toArray, List.set_cons_zero, List.set_cons_succ])) | go_big_quiet_step (fail))
  refine wpQuiet_nil ?_
  clear H
  intro _ H
  go_wp2_with (first | go_skip | ((with_reducible show wpList _ _ _ (_ :: _) _ _); (with_reducible apply wpl_storeRH row_rep); (· rfl); (· rfl); (· rfl); (· with_reducible exact repz_cells); (· exact H); (· (repeat (first | (with_reducible exact List.mem_cons_self) | with_reducible apply List.mem_cons_of_mem))); (· (simp only [rep_sz, Nat.reduceAdd, Nat.reduceLeDiff, Nat.le_refl]; done)); (· with_reducible exact repz_splice ..); (· (repeat (first | (with_reducible exact Repl.here) | with_reducible apply Repl.there))); (clear H; intro _ H); (simp only [Act.put, List.setIfInBounds_toArray, List.set_cons_zero, List.set_cons_succ])))
  exact ret_row3H row_rep rfl rfl rfl H List.mem_cons_self rfl rfl rfl ⟨rfl, H.tail.tail⟩
theorem rtake_kind (p : Nat) (id n to num waits : Int) (s : Value) (op : Bool) (kind frm lto term index mark commit : Int) (yes : Bool) (entries data : Value) (cid cnum : Int) (steps : Value) (err rerr rat : Int) (got : Value)
    (hid : 0 ≤ id ∧ id ≤ 8) (hf : 0 ≤ frm ∧ frm ≤ 255) (e1 : op = true) (e2 : (kind != 7) = true) (H : Heap W (RCl p id n to num op s waits :: l) w) :
    Calls Try.prog 22 #[.pointer (some ⟨p, 0, none⟩), .agg (rlet kind frm lto term index mark commit yes entries data cid cnum steps err rerr rat got)] w fun e w' =>
      e = .returned (.tuple #[.agg (rep 0 0 (.slice none 0 0)), .bool false, .slice none 0 0]) ∧ Heap W (RCl p id n to num op s waits :: l) w' := by
  have hw : IntKind.u8.wrap (100 + id) = 100 + id := IntWalk.u8_in _ (by omega)
  have hw1 : 0 ≤ 100 + id := by omega
  have hw2 : 100 + id ≤ 255 := by omega
  have f0 : 0 ≤ frm := by omega
  have f1 : frm ≤ 255 := by omega
  clear hid hf
  subst e1
  go_enter Try.func22, Try.ntmps22
  go_wp2_with (first | go_skip | ((with_reducible show wpList _ _ _ (_ :: _) _ _); (with_reducible apply wpl_boxRH); (· rfl); (· rfl); (· exact H); (clear H; intro px _ H); (simp only [Act.put, List.setIfInBounds_toArray, List.set_cons_zero, List.set_cons_succ])) | ((with_reducible show wpList _ _ _ (_ :: _) _ _); (with_reducible apply wpl_allocRH row_rep); (· rfl); (· exact H); (clear H; intro pz _ H); (simp only [Act.put, List.setIfInBounds_toArray, List.set_cons_zero, List.set_cons_succ])))
  refine wp_region_H H (by kernel_rfl) (by kernel_rfl) ?_
  repeat (first | go_big_quiet_skip | ((with_reducible apply wpQ_loadCH); (· first | exact cell_b8 | exact cell_u64 | exact cell_i64 | exact cell_bool); (· rfl); (· rfl); (· (repeat (first | (with_reducible exact List.mem_cons_self) | with_reducible apply List.mem_cons_of_mem))); (· (with_reducible first | exact rcl_g0 .. | exact rcl_g1 .. | exact rcl_g2 .. | exact rcl_g3 .. | exact rcl_g4 .. | exact rcl_g5 .. | exact rcl_g6 .. | exact rlet_g0 .. | exact rlet_g1 .. | exact rlet_g2 .. | exact rlet_g3 .. | exact rlet_g4 .. | exact rlet_g5 .. | exact rlet_g6 .. | exact rlet_g7 .. | exact rlet_g8 .. | exact rlet_g9 .. | exact rlet_g10 .. | exact rlet_g11 .. | exact rlet_g12 .. | exact rlet_g13 .. | exact rlet_g14 .. | exact rlet_g15 .. | exact rlet_g16 ..)); (simp only [Act.put, List.setIfInBounds_toArray, List.set_cons_zero, List.set_cons_succ])) | go_big_quiet_step (fail))
  refine wpQuiet_nil ?_
  clear H
  intro _ H
  go_wp2_with (first | go_skip | ((with_reducible show wpList _ _ _ (_ :: _) _ _); (with_reducible apply wpl_storeRH row_rep); (· rfl); (· rfl); (· rfl); (· with_reducible exact repz_cells); (· exact H); (· (repeat (first | (with_reducible exact List.mem_cons_self) | with_reducible apply List.mem_cons_of_mem))); (· (simp only [rep_sz, Nat.reduceAdd, Nat.reduceLeDiff, Nat.le_refl]; done)); (· with_reducible exact repz_splice ..); (· (repeat (first | (with_reducible exact Repl.here) | with_reducible apply Repl.there))); (clear H; intro _ H); (simp only [Act.put, List.setIfInBounds_toArray, List.set_cons_zero, List.set_cons_succ])))
  exact ret_row3H row_rep rfl rfl rfl H List.mem_cons_self rfl rfl rfl ⟨rfl, H.tail.tail⟩
theorem rtake_lto (p : Nat) (id n to num waits : Int) (s : Value) (op : Bool) (kind frm lto term index mark commit : Int) (yes : Bool) (entries data : Value) (cid cnum : Int) (steps : Value) (err rerr rat : Int) (got : Value)
    (hid : 0 ≤ id ∧ id ≤ 8) (hf : 0 ≤ frm ∧ frm ≤ 255) (e1 : op = true) (e2 : (kind != 7) = false) (e3 : (lto != 100 + id) = true) (H : Heap W (RCl p id n to num op s waits :: l) w) :
    Calls Try.prog 22 #[.pointer (some ⟨p, 0, none⟩), .agg (rlet kind frm lto term index mark commit yes entries data cid cnum steps err rerr rat got)] w fun e w' =>
      e = .returned (.tuple #[.agg (rep 0 0 (.slice none 0 0)), .bool false, .slice none 0 0]) ∧ Heap W (RCl p id n to num op s waits :: l) w' := by
  have hw : IntKind.u8.wrap (100 + id) = 100 + id := IntWalk.u8_in _ (by omega)
  have hw1 : 0 ≤ 100 + id := by omega
  have hw2 : 100 + id ≤ 255 := by omega
  have f0 : 0 ≤ frm := by omega
  have f1 : frm ≤ 255 := by omega
  clear hid hf
  subst e1
  go_enter Try.func22, Try.ntmps22
  go_wp2_with (first | go_skip | ((with_reducible show wpList _ _ _ (_ :: _) _ _); (with_reducible apply wpl_boxRH); (· rfl); (· rfl); (· exact H); (clear H; intro px _ H); (simp only [Act.put, List.setIfInBounds_toArray, List.set_cons_zero, List.set_cons_succ])) | ((with_reducible show wpList _ _ _ (_ :: _) _ _); (with_reducible apply wpl_allocRH row_rep); (· rfl); (· exact H); (clear H; intro pz _ H); (simp only [Act.put, List.setIfInBounds_toArray, List.set_cons_zero, List.set_cons_succ])))
  refine wp_region_H H (by kernel_rfl) (by kernel_rfl) ?_
  repeat (first | go_big_quiet_skip | ((with_reducible apply wpQ_loadCH); (· first | exact cell_b8 | exact cell_u64 | exact cell_i64 | exact cell_bool); (· rfl); (· rfl); (· (repeat (first | (with_reducible exact List.mem_cons_self) | with_reducible apply List.mem_cons_of_mem))); (· (with_reducible first | exact rcl_g0 .. | exact rcl_g1 .. | exact rcl_g2 .. | exact rcl_g3 .. | exact rcl_g4 .. | exact rcl_g5 .. | exact rcl_g6 .. | exact rlet_g0 .. | exact rlet_g1 .. | exact rlet_g2 .. | exact rlet_g3 .. | exact rlet_g4 .. | exact rlet_g5 .. | exact rlet_g6 .. | exact rlet_g7 .. | exact rlet_g8 .. | exact rlet_g9 .. | exact rlet_g10 .. | exact rlet_g11 .. | exact rlet_g12 .. | exact rlet_g13 .. | exact rlet_g14 .. | exact rlet_g15 .. | exact rlet_g16 ..)); (simp only [Act.put, List.setIfInBounds_toArray, List.set_cons_zero, List.set_cons_succ])) | go_big_quiet_step (fail))
  refine wpQuiet_nil ?_
  clear H
  intro _ H
  go_wp2_with (first | go_skip | ((with_reducible show wpList _ _ _ (_ :: _) _ _); (with_reducible apply wpl_storeRH row_rep); (· rfl); (· rfl); (· rfl); (· with_reducible exact repz_cells); (· exact H); (· (repeat (first | (with_reducible exact List.mem_cons_self) | with_reducible apply List.mem_cons_of_mem))); (· (simp only [rep_sz, Nat.reduceAdd, Nat.reduceLeDiff, Nat.le_refl]; done)); (· with_reducible exact repz_splice ..); (· (repeat (first | (with_reducible exact Repl.here) | with_reducible apply Repl.there))); (clear H; intro _ H); (simp only [Act.put, List.setIfInBounds_toArray, List.set_cons_zero, List.set_cons_succ])))
  exact ret_row3H row_rep rfl rfl rfl H List.mem_cons_self rfl rfl rfl ⟨rfl, H.tail.tail⟩
theorem rtake_cid (p : Nat) (id n to num waits : Int) (s : Value) (op : Bool) (kind frm lto term index mark commit : Int) (yes : Bool) (entries data : Value) (cid cnum : Int) (steps : Value) (err rerr rat : Int) (got : Value)
    (hid : 0 ≤ id ∧ id ≤ 8) (hf : 0 ≤ frm ∧ frm ≤ 255) (e1 : op = true) (e2 : (kind != 7) = false) (e3 : (lto != 100 + id) = false) (e4 : (cid != id) = true) (H : Heap W (RCl p id n to num op s waits :: l) w) :
    Calls Try.prog 22 #[.pointer (some ⟨p, 0, none⟩), .agg (rlet kind frm lto term index mark commit yes entries data cid cnum steps err rerr rat got)] w fun e w' =>
      e = .returned (.tuple #[.agg (rep 0 0 (.slice none 0 0)), .bool false, .slice none 0 0]) ∧ Heap W (RCl p id n to num op s waits :: l) w' := by
  have hw : IntKind.u8.wrap (100 + id) = 100 + id := IntWalk.u8_in _ (by omega)
  have hw1 : 0 ≤ 100 + id := by omega
  have hw2 : 100 + id ≤ 255 := by omega
  have f0 : 0 ≤ frm := by omega
  have f1 : frm ≤ 255 := by omega
  clear hid hf
  subst e1
  go_enter Try.func22, Try.ntmps22
  go_wp2_with (first | go_skip | ((with_reducible show wpList _ _ _ (_ :: _) _ _); (with_reducible apply wpl_boxRH); (· rfl); (· rfl); (· exact H); (clear H; intro px _ H); (simp only [Act.put, List.setIfInBounds_toArray, List.set_cons_zero, List.set_cons_succ])) | ((with_reducible show wpList _ _ _ (_ :: _) _ _); (with_reducible apply wpl_allocRH row_rep); (· rfl); (· exact H); (clear H; intro pz _ H); (simp only [Act.put, List.setIfInBounds_toArray, List.set_cons_zero, List.set_cons_succ])))
  refine wp_region_H H (by kernel_rfl) (by kernel_rfl) ?_
  repeat (first | go_big_quiet_skip | ((with_reducible apply wpQ_loadCH); (· first | exact cell_b8 | exact cell_u64 | exact cell_i64 | exact cell_bool); (· rfl); (· rfl); (· (repeat (first | (with_reducible exact List.mem_cons_self) | with_reducible apply List.mem_cons_of_mem))); (· (with_reducible first | exact rcl_g0 .. | exact rcl_g1 .. | exact rcl_g2 .. | exact rcl_g3 .. | exact rcl_g4 .. | exact rcl_g5 .. | exact rcl_g6 .. | exact rlet_g0 .. | exact rlet_g1 .. | exact rlet_g2 .. | exact rlet_g3 .. | exact rlet_g4 .. | exact rlet_g5 .. | exact rlet_g6 .. | exact rlet_g7 .. | exact rlet_g8 .. | exact rlet_g9 .. | exact rlet_g10 .. | exact rlet_g11 .. | exact rlet_g12 .. | exact rlet_g13 .. | exact rlet_g14 .. | exact rlet_g15 .. | exact rlet_g16 ..)); (simp only [Act.put, List.setIfInBounds_toArray, List.set_cons_zero, List.set_cons_succ])) | go_big_quiet_step (fail))
  refine wpQuiet_nil ?_
  clear H
  intro _ H
  go_wp2_with (first | go_skip | ((with_reducible show wpList _ _ _ (_ :: _) _ _); (with_reducible apply wpl_storeRH row_rep); (· rfl); (· rfl); (· rfl); (· with_reducible exact repz_cells); (· exact H); (· (repeat (first | (with_reducible exact List.mem_cons_self) | with_reducible apply List.mem_cons_of_mem))); (· (simp only [rep_sz, Nat.reduceAdd, Nat.reduceLeDiff, Nat.le_refl]; done)); (· with_reducible exact repz_splice ..); (· (repeat (first | (with_reducible exact Repl.here) | with_reducible apply Repl.there))); (clear H; intro _ H); (simp only [Act.put, List.setIfInBounds_toArray, List.set_cons_zero, List.set_cons_succ])))
  exact ret_row3H row_rep rfl rfl rfl H List.mem_cons_self rfl rfl rfl ⟨rfl, H.tail.tail⟩
theorem rtake_num (p : Nat) (id n to num waits : Int) (s : Value) (op : Bool) (kind frm lto term index mark commit : Int) (yes : Bool) (entries data : Value) (cid cnum : Int) (steps : Value) (err rerr rat : Int) (got : Value)
    (hid : 0 ≤ id ∧ id ≤ 8) (hf : 0 ≤ frm ∧ frm ≤ 255) (e1 : op = true) (e2 : (kind != 7) = false) (e3 : (lto != 100 + id) = false) (e4 : (cid != id) = false) (e5 : (cnum != num) = true) (H : Heap W (RCl p id n to num op s waits :: l) w) :
    Calls Try.prog 22 #[.pointer (some ⟨p, 0, none⟩), .agg (rlet kind frm lto term index mark commit yes entries data cid cnum steps err rerr rat got)] w fun e w' =>
      e = .returned (.tuple #[.agg (rep 0 0 (.slice none 0 0)), .bool false, .slice none 0 0]) ∧ Heap W (RCl p id n to num op s waits :: l) w' := by
  have hw : IntKind.u8.wrap (100 + id) = 100 + id := IntWalk.u8_in _ (by omega)
  have hw1 : 0 ≤ 100 + id := by omega
  have hw2 : 100 + id ≤ 255 := by omega
  have f0 : 0 ≤ frm := by omega
  have f1 : frm ≤ 255 := by omega
  clear hid hf
  subst e1
  go_enter Try.func22, Try.ntmps22
  go_wp2_with (first | go_skip | ((with_reducible show wpList _ _ _ (_ :: _) _ _); (with_reducible apply wpl_boxRH); (· rfl); (· rfl); (· exact H); (clear H; intro px _ H); (simp only [Act.put, List.setIfInBounds_toArray, List.set_cons_zero, List.set_cons_succ])) | ((with_reducible show wpList _ _ _ (_ :: _) _ _); (with_reducible apply wpl_allocRH row_rep); (· rfl); (· exact H); (clear H; intro pz _ H); (simp only [Act.put, List.setIfInBounds_toArray, List.set_cons_zero, List.set_cons_succ])))
  refine wp_region_H H (by kernel_rfl) (by kernel_rfl) ?_
  repeat (first | go_big_quiet_skip | ((with_reducible apply wpQ_loadCH); (· first | exact cell_b8 | exact cell_u64 | exact cell_i64 | exact cell_bool); (· rfl); (· rfl); (· (repeat (first | (with_reducible exact List.mem_cons_self) | with_reducible apply List.mem_cons_of_mem))); (· (with_reducible first | exact rcl_g0 .. | exact rcl_g1 .. | exact rcl_g2 .. | exact rcl_g3 .. | exact rcl_g4 .. | exact rcl_g5 .. | exact rcl_g6 .. | exact rlet_g0 .. | exact rlet_g1 .. | exact rlet_g2 .. | exact rlet_g3 .. | exact rlet_g4 .. | exact rlet_g5 .. | exact rlet_g6 .. | exact rlet_g7 .. | exact rlet_g8 .. | exact rlet_g9 .. | exact rlet_g10 .. | exact rlet_g11 .. | exact rlet_g12 .. | exact rlet_g13 .. | exact rlet_g14 .. | exact rlet_g15 .. | exact rlet_g16 ..)); (simp only [Act.put, List.setIfInBounds_toArray, List.set_cons_zero, List.set_cons_succ])) | go_big_quiet_step (fail))
  refine wpQuiet_nil ?_
  clear H
  intro _ H
  go_wp2_with (first | go_skip | ((with_reducible show wpList _ _ _ (_ :: _) _ _); (with_reducible apply wpl_storeRH row_rep); (· rfl); (· rfl); (· rfl); (· with_reducible exact repz_cells); (· exact H); (· (repeat (first | (with_reducible exact List.mem_cons_self) | with_reducible apply List.mem_cons_of_mem))); (· (simp only [rep_sz, Nat.reduceAdd, Nat.reduceLeDiff, Nat.le_refl]; done)); (· with_reducible exact repz_splice ..); (· (repeat (first | (with_reducible exact Repl.here) | with_reducible apply Repl.there))); (clear H; intro _ H); (simp only [Act.put, List.setIfInBounds_toArray, List.set_cons_zero, List.set_cons_succ])))
  exact ret_row3H row_rep rfl rfl rfl H List.mem_cons_self rfl rfl rfl ⟨rfl, H.tail.tail⟩
theorem rtake_low (p : Nat) (id n to num waits : Int) (s : Value) (op : Bool) (kind frm lto term index mark commit : Int) (yes : Bool) (entries data : Value) (cid cnum : Int) (steps : Value) (err rerr rat : Int) (got : Value)
    (hid : 0 ≤ id ∧ id ≤ 8) (hf : 0 ≤ frm ∧ frm ≤ 255) (e1 : op = true) (e2 : (kind != 7) = false) (e3 : (lto != 100 + id) = false) (e4 : (cid != id) = false) (e5 : (cnum != num) = false) (e6 : decide (frm < 1) = true) (H : Heap W (RCl p id n to num op s waits :: l) w) :
    Calls Try.prog 22 #[.pointer (some ⟨p, 0, none⟩), .agg (rlet kind frm lto term index mark commit yes entries data cid cnum steps err rerr rat got)] w fun e w' =>
      e = .returned (.tuple #[.agg (rep 0 0 (.slice none 0 0)), .bool false, .slice none 0 0]) ∧ Heap W (RCl p id n to num op s waits :: l) w' := by
  have hw : IntKind.u8.wrap (100 + id) = 100 + id := IntWalk.u8_in _ (by omega)
  have hw1 : 0 ≤ 100 + id := by omega
  have hw2 : 100 + id ≤ 255 := by omega
  have f0 : 0 ≤ frm := by omega
  have f1 : frm ≤ 255 := by omega
  clear hid hf
  subst e1
  go_enter Try.func22, Try.ntmps22
  go_wp2_with (first | go_skip | ((with_reducible show wpList _ _ _ (_ :: _) _ _); (with_reducible apply wpl_boxRH); (· rfl); (· rfl); (· exact H); (clear H; intro px _ H); (simp only [Act.put, List.setIfInBounds_toArray, List.set_cons_zero, List.set_cons_succ])) | ((with_reducible show wpList _ _ _ (_ :: _) _ _); (with_reducible apply wpl_allocRH row_rep); (· rfl); (· exact H); (clear H; intro pz _ H); (simp only [Act.put, List.setIfInBounds_toArray, List.set_cons_zero, List.set_cons_succ])))
  refine wp_region_H H (by kernel_rfl) (by kernel_rfl) ?_
  repeat (first | go_big_quiet_skip | ((with_reducible apply wpQ_loadCH); (· first | exact cell_b8 | exact cell_u64 | exact cell_i64 | exact cell_bool); (· rfl); (· rfl); (· (repeat (first | (with_reducible exact List.mem_cons_self) | with_reducible apply List.mem_cons_of_mem))); (· (with_reducible first | exact rcl_g0 .. | exact rcl_g1 .. | exact rcl_g2 .. | exact rcl_g3 .. | exact rcl_g4 .. | exact rcl_g5 .. | exact rcl_g6 .. | exact rlet_g0 .. | exact rlet_g1 .. | exact rlet_g2 .. | exact rlet_g3 .. | exact rlet_g4 .. | exact rlet_g5 .. | exact rlet_g6 .. | exact rlet_g7 .. | exact rlet_g8 .. | exact rlet_g9 .. | exact rlet_g10 .. | exact rlet_g11 .. | exact rlet_g12 .. | exact rlet_g13 .. | exact rlet_g14 .. | exact rlet_g15 .. | exact rlet_g16 ..)); (simp only [Act.put, List.setIfInBounds_toArray, List.set_cons_zero, List.set_cons_succ])) | go_big_quiet_step (fail))
  refine wpQuiet_nil ?_
  clear H
  intro _ H
  go_wp2_with (first | go_skip | ((with_reducible show wpList _ _ _ (_ :: _) _ _); (with_reducible apply wpl_storeRH row_rep); (· rfl); (· rfl); (· rfl); (· with_reducible exact repz_cells); (· exact H); (· (repeat (first | (with_reducible exact List.mem_cons_self) | with_reducible apply List.mem_cons_of_mem))); (· (simp only [rep_sz, Nat.reduceAdd, Nat.reduceLeDiff, Nat.le_refl]; done)); (· with_reducible exact repz_splice ..); (· (repeat (first | (with_reducible exact Repl.here) | with_reducible apply Repl.there))); (clear H; intro _ H); (simp only [Act.put, List.setIfInBounds_toArray, List.set_cons_zero, List.set_cons_succ])))
  exact ret_row3H row_rep rfl rfl rfl H List.mem_cons_self rfl rfl rfl ⟨rfl, H.tail.tail⟩
theorem rtake_high (p : Nat) (id n to num waits : Int) (s : Value) (op : Bool) (kind frm lto term index mark commit : Int) (yes : Bool) (entries data : Value) (cid cnum : Int) (steps : Value) (err rerr rat : Int) (got : Value)
    (hid : 0 ≤ id ∧ id ≤ 8) (hf : 0 ≤ frm ∧ frm ≤ 255) (e1 : op = true) (e2 : (kind != 7) = false) (e3 : (lto != 100 + id) = false) (e4 : (cid != id) = false) (e5 : (cnum != num) = false) (e6 : decide (frm < 1) = false) (e7 : decide (n < frm) = true) (H : Heap W (RCl p id n to num op s waits :: l) w) :
    Calls Try.prog 22 #[.pointer (some ⟨p, 0, none⟩), .agg (rlet kind frm lto term index mark commit yes entries data cid cnum steps err rerr rat got)] w fun e w' =>
      e = .returned (.tuple #[.agg (rep 0 0 (.slice none 0 0)), .bool false, .slice none 0 0]) ∧ Heap W (RCl p id n to num op s waits :: l) w' := by
  have hw : IntKind.u8.wrap (100 + id) = 100 + id := IntWalk.u8_in _ (by omega)
  have hw1 : 0 ≤ 100 + id := by omega
  have hw2 : 100 + id ≤ 255 := by omega
  have f0 : 0 ≤ frm := by omega
  have f1 : frm ≤ 255 := by omega
  clear hid hf
  subst e1
  go_enter Try.func22, Try.ntmps22
  go_wp2_with (first | go_skip | ((with_reducible show wpList _ _ _ (_ :: _) _ _); (with_reducible apply wpl_boxRH); (· rfl); (· rfl); (· exact H); (clear H; intro px _ H); (simp only [Act.put, List.setIfInBounds_toArray, List.set_cons_zero, List.set_cons_succ])) | ((with_reducible show wpList _ _ _ (_ :: _) _ _); (with_reducible apply wpl_allocRH row_rep); (· rfl); (· exact H); (clear H; intro pz _ H); (simp only [Act.put, List.setIfInBounds_toArray, List.set_cons_zero, List.set_cons_succ])))
  refine wp_region_H H (by kernel_rfl) (by kernel_rfl) ?_
  repeat (first | go_big_quiet_skip | ((with_reducible apply wpQ_loadCH); (· first | exact cell_b8 | exact cell_u64 | exact cell_i64 | exact cell_bool); (· rfl); (· rfl); (· (repeat (first | (with_reducible exact List.mem_cons_self) | with_reducible apply List.mem_cons_of_mem))); (· (with_reducible first | exact rcl_g0 .. | exact rcl_g1 .. | exact rcl_g2 .. | exact rcl_g3 .. | exact rcl_g4 .. | exact rcl_g5 .. | exact rcl_g6 .. | exact rlet_g0 .. | exact rlet_g1 .. | exact rlet_g2 .. | exact rlet_g3 .. | exact rlet_g4 .. | exact rlet_g5 .. | exact rlet_g6 .. | exact rlet_g7 .. | exact rlet_g8 .. | exact rlet_g9 .. | exact rlet_g10 .. | exact rlet_g11 .. | exact rlet_g12 .. | exact rlet_g13 .. | exact rlet_g14 .. | exact rlet_g15 .. | exact rlet_g16 ..)); (simp only [Act.put, List.setIfInBounds_toArray, List.set_cons_zero, List.set_cons_succ])) | go_big_quiet_step (fail))
  refine wpQuiet_nil ?_
  clear H
  intro _ H
  go_wp2_with (first | go_skip | ((with_reducible show wpList _ _ _ (_ :: _) _ _); (with_reducible apply wpl_storeRH row_rep); (· rfl); (· rfl); (· rfl); (· with_reducible exact repz_cells); (· exact H); (· (repeat (first | (with_reducible exact List.mem_cons_self) | with_reducible apply List.mem_cons_of_mem))); (· (simp only [rep_sz, Nat.reduceAdd, Nat.reduceLeDiff, Nat.le_refl]; done)); (· with_reducible exact repz_splice ..); (· (repeat (first | (with_reducible exact Repl.here) | with_reducible apply Repl.there))); (clear H; intro _ H); (simp only [Act.put, List.setIfInBounds_toArray, List.set_cons_zero, List.set_cons_succ])))
  exact ret_row3H row_rep rfl rfl rfl H List.mem_cons_self rfl rfl rfl ⟨rfl, H.tail.tail⟩
theorem rlet_rep (kind frm lto term index mark commit : Int) (yes : Bool) (entries data : Value) (cid cnum : Int) (steps : Value) (err rerr rat : Int) (got : Value) : (rlet kind frm lto term index mark commit yes entries data cid cnum steps err rerr rat got).extract 14 (14 + 3) = rep rerr rat got := by simp [rlet, rep]
theorem rtake_done (p : Nat) (id n to num waits : Int) (s : Value) (frm term index mark commit : Int) (yes : Bool) (entries data : Value) (steps : Value) (rerr rat : Int) (ga : Option Addr) (gn gc : Nat)
    (hid : 0 ≤ id ∧ id ≤ 8) (hf : 0 ≤ frm ∧ frm ≤ 255) (e6 : decide (frm < 1) = false) (e7 : decide (n < frm) = false) (H : Heap W (RCl p id n to num true s waits :: l) w) :
    Calls Try.prog 22 #[.pointer (some ⟨p, 0, none⟩), .agg (rlet 7 frm (100 + id) term index mark commit yes entries data id num steps 0 rerr rat (.slice ga gn gc))] w fun e w' =>
      e = .returned (.tuple #[.agg (rep rerr rat (.slice ga gn gc)), .bool true, .slice none 0 0]) ∧ Heap W (RCl p id n to num false s waits :: l) w' := by
  have hw : IntKind.u8.wrap (100 + id) = 100 + id := IntWalk.u8_in _ (by omega)
  have hw1 : 0 ≤ 100 + id := by omega
  have hw2 : 100 + id ≤ 255 := by omega
  have f0 : 0 ≤ frm := by omega
  have f1 : frm ≤ 255 := by omega
  clear hid hf
  go_enter Try.func22, Try.ntmps22
  go_wp2_with (first | go_skip | ((with_reducible show wpList _ _ _ (_ :: _) _ _); (with_reducible apply wpl_boxRH); (· rfl); (· rfl); (· exact H); (clear H; intro px _ H); (simp only [Act.put, List.setIfInBounds_toArray, List.set_cons_zero, List.set_cons_succ])) | ((with_reducible show wpList _ _ _ (_ :: _) _ _); (with_reducible apply wpl_allocRH row_rep); (· rfl); (· exact H); (clear H; intro pz _ H); (simp only [Act.put, List.setIfInBounds_toArray, List.set_cons_zero, List.set_cons_succ])))
  refine wp_region_H H (by kernel_rfl) (by kernel_rfl) ?_
  repeat (first | go_big_quiet_skip | ((with_reducible apply wpQ_loadCH); (· first | exact cell_b8 | exact cell_u64 | exact cell_i64 | exact cell_bool); (· rfl); (· rfl); (· (repeat (first | (with_reducible exact List.mem_cons_self) | with_reducible apply List.mem_cons_of_mem))); (· (with_reducible first | exact rcl_g0 .. | exact rcl_g1 .. | exact rcl_g2 .. | exact rcl_g3 .. | exact rcl_g4 .. | exact rcl_g5 .. | exact rcl_g6 .. | exact rlet_g0 .. | exact rlet_g1 .. | exact rlet_g2 .. | exact rlet_g3 .. | exact rlet_g4 .. | exact rlet_g5 .. | exact rlet_g6 .. | exact rlet_g7 .. | exact rlet_g8 .. | exact rlet_g9 .. | exact rlet_g10 .. | exact rlet_g11 .. | exact rlet_g12 .. | exact rlet_g13 .. | exact rlet_g14 .. | exact rlet_g15 .. | exact rlet_g16 ..)); (simp only [Act.put, List.setIfInBounds_toArray, List.set_cons_zero, List.set_cons_succ])) | go_big_quiet_step (fail))
  refine wpQuiet_nil ?_
  clear H
  intro _ H
  go_wp2_with (first | go_skip | ((with_reducible show wpList _ _ _ (_ :: _) _ _); (with_reducible apply wpl_loadCH); (· exact cell_errno); (· rfl); (· rfl); (· exact H); (· (repeat (first | (with_reducible exact List.mem_cons_self) | with_reducible apply List.mem_cons_of_mem))); (· (with_reducible first | exact rlet_g0 .. | exact rlet_g1 .. | exact rlet_g2 .. | exact rlet_g3 .. | exact rlet_g4 .. | exact rlet_g5 .. | exact rlet_g6 .. | exact rlet_g7 .. | exact rlet_g8 .. | exact rlet_g9 .. | exact rlet_g10 .. | exact rlet_g11 .. | exact rlet_g12 .. | exact rlet_g13 .. | exact rlet_g14 .. | exact rlet_g15 .. | exact rlet_g16 ..)); (simp only [Act.put, List.setIfInBounds_toArray, List.set_cons_zero, List.set_cons_succ])) | (first | ((with_reducible show wpList _ _ _ (_ :: _) _ _); (with_reducible apply wpl_storeIH); (· exact cell_bool); (· rfl); (· rfl); (· rfl); (· exact H); (· (repeat (first | (with_reducible exact List.mem_cons_self) | with_reducible apply List.mem_cons_of_mem))); (· (simp only [rcl_sz, Nat.reduceLT]; done)); (· (with_reducible first | exact rcl_s0 .. | exact rcl_s1 .. | exact rcl_s2 .. | exact rcl_s3 .. | exact rcl_s4 .. | exact rcl_s5 .. | exact rcl_s6 ..)); (· (repeat (first | (with_reducible exact Repl.here) | with_reducible apply Repl.there))); (clear H; intro _ H); (simp only [Act.put, List.setIfInBounds_toArray, List.set_cons_zero, List.set_cons_succ])) | ((with_reducible show wpList _ _ _ (_ :: _) _ _); (with_reducible apply wpl_storeBH); (· exact cell_bool); (· rfl); (· rfl); (· rfl); (· exact H); (· (repeat (first | (with_reducible exact List.mem_cons_self) | with_reducible apply List.mem_cons_of_mem))); (· (simp only [rcl_sz, Nat.reduceLT]; done)); (· (with_reducible first | exact rcl_s0 .. | exact rcl_s1 .. | exact rcl_s2 .. | exact rcl_s3 .. | exact rcl_s4 .. | exact rcl_s5 .. | exact rcl_s6 ..)); (· (repeat (first | (with_reducible exact Repl.here) | with_reducible apply Repl.there))); (clear H; intro _ H); (simp only [Act.put, List.setIfInBounds_toArray, List.set_cons_zero, List.set_cons_succ])) | ((with_reducible show wpList _ _ _ (_ :: _) _ _); (with_reducible apply wpl_storeSH); (· exact cell_bool); (· rfl); (· rfl); (· rfl); (· exact H); (· (repeat (first | (with_reducible exact List.mem_cons_self) | with_reducible apply List.mem_cons_of_mem))); (· (simp only [rcl_sz, Nat.reduceLT]; done)); (· (with_reducible first | exact rcl_s0 .. | exact rcl_s1 .. | exact rcl_s2 .. | exact rcl_s3 .. | exact rcl_s4 .. | exact rcl_s5 .. | exact rcl_s6 ..)); (· (repeat (first | (with_reducible exact Repl.here) | with_reducible apply Repl.there))); (clear H; intro _ H); (simp only [Act.put, List.setIfInBounds_toArray, List.set_cons_zero, List.set_cons_succ])) | ((with_reducible show wpList _ _ _ (_ :: _) _ _); (with_reducible apply wpl_storePH); (· exact cell_bool); (· rfl); (· rfl); (· rfl); (· exact H); (· (repeat (first | (with_reducible exact List.mem_cons_self) | with_reducible apply List.mem_cons_of_mem))); (· (simp only [rcl_sz, Nat.reduceLT]; done)); (· (with_reducible first | exact rcl_s0 .. | exact rcl_s1 .. | exact rcl_s2 .. | exact rcl_s3 .. | exact rcl_s4 .. | exact rcl_s5 .. | exact rcl_s6 ..)); (· (repeat (first | (with_reducible exact Repl.here) | with_reducible apply Repl.there))); (clear H; intro _ H); (simp only [Act.put, List.setIfInBounds_toArray, List.set_cons_zero, List.set_cons_succ]))) | ((with_reducible show wpList _ _ _ (_ :: _) _ _); (with_reducible apply wpl_loadRH row_rep); (· rfl); (· rfl); (· exact H); (· (repeat (first | (with_reducible exact List.mem_cons_self) | with_reducible apply List.mem_cons_of_mem))); (· (simp only [rlet_sz, Nat.reduceAdd, Nat.reduceLeDiff, Nat.le_refl]; done)); (· with_reducible exact rlet_rep ..); (simp only [Act.put, List.setIfInBounds_toArray, List.set_cons_zero, List.set_cons_succ])) | ((with_reducible show wpList _ _ _ (_ :: _) _ _); (with_reducible apply wpl_storeRH row_rep); (· rfl); (· rfl); (· rfl); (· with_reducible exact rep_cells ..); (· exact H); (· (repeat (first | (with_reducible exact List.mem_cons_self) | with_reducible apply List.mem_cons_of_mem))); (· (simp only [rep_sz, Nat.reduceAdd, Nat.reduceLeDiff, Nat.le_refl]; done)); (· with_reducible exact rep_splice ..); (· (repeat (first | (with_reducible exact Repl.here) | with_reducible apply Repl.there))); (clear H; intro _ H); (simp only [Act.put, List.setIfInBounds_toArray, List.set_cons_zero, List.set_cons_succ])))
  exact ret_row3H row_rep rfl rfl rfl H List.mem_cons_self rfl rfl rfl ⟨rfl, H.tail.tail⟩
theorem rtake_leader (p : Nat) (id n to num waits : Int) (a : Option Addr) (m c : Nat) (frm term index mark commit : Int) (yes : Bool) (entries data : Value) (steps : Value) (rerr rat : Int) (got : Value)
    (hid : 0 ≤ id ∧ id ≤ 8) (hf : 0 ≤ frm ∧ frm ≤ 255) (hn : 1 ≤ n ∧ n ≤ 7) (e6 : decide (frm < 1) = false) (e7 : decide (n < frm) = false) (e8 : decide (1 ≤ index) = true) (e9 : decide (index ≤ n) = true) (e10 : (index != frm) = true) (H : Heap W (RCl p id n to num true (.slice a m c) waits :: l) w) :
    Calls Try.prog 22 #[.pointer (some ⟨p, 0, none⟩), .agg (rlet 7 frm (100 + id) term index mark commit yes entries data id num steps 16 rerr rat got)] w fun e w' =>
      ∃ q, e = .returned (.tuple #[.agg (rep 0 0 (.slice none 0 0)), .bool false, .slice (some ⟨q, 0, none⟩) 1 1]) ∧ Heap W (Cel q (rlet 6 (100 + id) index 0 0 0 0 false (.slice none 0 0) (.slice none 0 0) id num (.slice a m c) 0 0 0 (.slice none 0 0)) 76 :: RCl p id n index num true (.slice a m c) 0 :: l) w' := by
  have hw : IntKind.u8.wrap (100 + id) = 100 + id := IntWalk.u8_in _ (by omega)
  have hw1 : 0 ≤ 100 + id := by omega
  have hw2 : 100 + id ≤ 255 := by omega
  have f0 : 0 ≤ frm := by omega
  have f1 : frm ≤ 255 := by omega
  have g1 : 1 ≤ index := of_decide_eq_true e8
  have g2 : index ≤ n := of_decide_eq_true e9
  have hw3 : wrap64 index = index := by unfold wrap64; omega
  have hw4 : IntKind.u64.wrap n = n := IntWalk.u64_in _ (by omega)
  have hw5 : IntKind.u64.wrap frm = frm := IntWalk.u64_in _ (by omega)
  have HI := Lib.hid (And.intro hid (And.intro g1 (And.intro g2 hn)))
  clear hid hf hn g1 g2
  go_enter Try.func22, Try.ntmps22
  go_wp2_with (first | go_skip | ((with_reducible show wpList _ _ _ (_ :: _) _ _); (with_reducible apply wpl_boxRH); (· rfl); (· rfl); (· exact H); (clear H; intro px _ H); (simp only [Act.put, List.setIfInBounds_toArray, List.set_cons_zero, List.set_cons_succ])) | ((with_reducible show wpList _ _ _ (_ :: _) _ _); (with_reducible apply wpl_allocRH row_rep); (· rfl); (· exact H); (clear H; intro pz _ H); (simp only [Act.put, List.setIfInBounds_toArray, List.set_cons_zero, List.set_cons_succ])))
  refine wp_region_H H (by kernel_rfl) (by kernel_rfl) ?_
  repeat (first | go_big_quiet_skip | ((with_reducible apply wpQ_loadCH); (· first | exact cell_b8 | exact cell_u64 | exact cell_i64 | exact cell_bool); (· rfl); (· rfl); (· (repeat (first | (with_reducible exact List.mem_cons_self) | with_reducible apply List.mem_cons_of_mem))); (· (with_reducible first | exact rcl_g0 .. | exact rcl_g1 .. | exact rcl_g2 .. | exact rcl_g3 .. | exact rcl_g4 .. | exact rcl_g5 .. | exact rcl_g6 .. | exact rlet_g0 .. | exact rlet_g1 .. | exact rlet_g2 .. | exact rlet_g3 .. | exact rlet_g4 .. | exact rlet_g5 .. | exact rlet_g6 .. | exact rlet_g7 .. | exact rlet_g8 .. | exact rlet_g9 .. | exact rlet_g10 .. | exact rlet_g11 .. | exact rlet_g12 .. | exact rlet_g13 .. | exact rlet_g14 .. | exact rlet_g15 .. | exact rlet_g16 ..)); (simp only [Act.put, List.setIfInBounds_toArray, List.set_cons_zero, List.set_cons_succ])) | go_big_quiet_step (fail))
  refine wpQuiet_nil ?_
  clear H
  intro _ H
  go_wp2_with (first | go_skip | ((with_reducible show wpList _ _ _ (_ :: _) _ _); (with_reducible apply wpl_loadCH); (· first | exact cell_errno | exact cell_u64); (· rfl); (· rfl); (· exact H); (· (repeat (first | (with_reducible exact List.mem_cons_self) | with_reducible apply List.mem_cons_of_mem))); (· (with_reducible first | exact rlet_g0 .. | exact rlet_g1 .. | exact rlet_g2 .. | exact rlet_g3 .. | exact rlet_g4 .. | exact rlet_g5 .. | exact rlet_g6 .. | exact rlet_g7 .. | exact rlet_g8 .. | exact rlet_g9 .. | exact rlet_g10 .. | exact rlet_g11 .. | exact rlet_g12 .. | exact rlet_g13 .. | exact rlet_g14 .. | exact rlet_g15 .. | exact rlet_g16 ..)); (simp only [Act.put, List.setIfInBounds_toArray, List.set_cons_zero, List.set_cons_succ])) | (first | ((with_reducible show wpList _ _ _ (_ :: _) _ _); (with_reducible apply wpl_storeIH); (· exact cell_i64); (· rfl); (· rfl); (· rfl); (· exact H); (· (repeat (first | (with_reducible exact List.mem_cons_self) | with_reducible apply List.mem_cons_of_mem))); (· (simp only [rcl_sz, Nat.reduceLT]; done)); (· (with_reducible first | exact rcl_s0 .. | exact rcl_s1 .. | exact rcl_s2 .. | exact rcl_s3 .. | exact rcl_s4 .. | exact rcl_s5 .. | exact rcl_s6 ..)); (· (repeat (first | (with_reducible exact Repl.here) | with_reducible apply Repl.there))); (clear H; intro _ H); (simp only [Act.put, List.setIfInBounds_toArray, List.set_cons_zero, List.set_cons_succ])) | ((with_reducible show wpList _ _ _ (_ :: _) _ _); (with_reducible apply wpl_storeBH); (· exact cell_i64); (· rfl); (· rfl); (· rfl); (· exact H); (· (repeat (first | (with_reducible exact List.mem_cons_self) | with_reducible apply List.mem_cons_of_mem))); (· (simp only [rcl_sz, Nat.reduceLT]; done)); (· (with_reducible first | exact rcl_s0 .. | exact rcl_s1 .. | exact rcl_s2 .. | exact rcl_s3 .. | exact rcl_s4 .. | exact rcl_s5 .. | exact rcl_s6 ..)); (· (repeat (first | (with_reducible exact Repl.here) | with_reducible apply Repl.there))); (clear H; intro _ H); (simp only [Act.put, List.setIfInBounds_toArray, List.set_cons_zero, List.set_cons_succ])) | ((with_reducible show wpList _ _ _ (_ :: _) _ _); (with_reducible apply wpl_storeSH); (· exact cell_i64); (· rfl); (· rfl); (· rfl); (· exact H); (· (repeat (first | (with_reducible exact List.mem_cons_self) | with_reducible apply List.mem_cons_of_mem))); (· (simp only [rcl_sz, Nat.reduceLT]; done)); (· (with_reducible first | exact rcl_s0 .. | exact rcl_s1 .. | exact rcl_s2 .. | exact rcl_s3 .. | exact rcl_s4 .. | exact rcl_s5 .. | exact rcl_s6 ..)); (· (repeat (first | (with_reducible exact Repl.here) | with_reducible apply Repl.there))); (clear H; intro _ H); (simp only [Act.put, List.setIfInBounds_toArray, List.set_cons_zero, List.set_cons_succ])) | ((with_reducible show wpList _ _ _ (_ :: _) _ _); (with_reducible apply wpl_storePH); (· exact cell_i64); (· rfl); (· rfl); (· rfl); (· exact H); (· (repeat (first | (with_reducible exact List.mem_cons_self) | with_reducible apply List.mem_cons_of_mem))); (· (simp only [rcl_sz, Nat.reduceLT]; done)); (· (with_reducible first | exact rcl_s0 .. | exact rcl_s1 .. | exact rcl_s2 .. | exact rcl_s3 .. | exact rcl_s4 .. | exact rcl_s5 .. | exact rcl_s6 ..)); (· (repeat (first | (with_reducible exact Repl.here) | with_reducible apply Repl.there))); (clear H; intro _ H); (simp only [Act.put, List.setIfInBounds_toArray, List.set_cons_zero, List.set_cons_succ]))))
  refine wp_region_H H (by kernel_rfl) (by kernel_rfl) ?_
  repeat (first | go_big_quiet_skip | ((with_reducible apply wpQ_loadCH); (· first | exact cell_b8 | exact cell_u64 | exact cell_i64 | exact cell_errno); (· rfl); (· rfl); (· (repeat (first | (with_reducible exact List.mem_cons_self) | with_reducible apply List.mem_cons_of_mem))); (· (with_reducible first | exact rcl_g0 .. | exact rcl_g1 .. | exact rcl_g2 .. | exact rcl_g3 .. | exact rcl_g4 .. | exact rcl_g5 .. | exact rcl_g6 .. | exact rlet_g0 .. | exact rlet_g1 .. | exact rlet_g2 .. | exact rlet_g3 .. | exact rlet_g4 .. | exact rlet_g5 .. | exact rlet_g6 .. | exact rlet_g7 .. | exact rlet_g8 .. | exact rlet_g9 .. | exact rlet_g10 .. | exact rlet_g11 .. | exact rlet_g12 .. | exact rlet_g13 .. | exact rlet_g14 .. | exact rlet_g15 .. | exact rlet_g16 ..)); (simp only [Act.put, List.setIfInBounds_toArray, List.set_cons_zero, List.set_cons_succ])) | go_big_quiet_step (fail))
  refine wpQuiet_nil ?_
  clear H
  intro _ H
  go_wp2_with (first | go_skip | ((with_reducible show wpList _ _ _ (_ :: _) _ _); (with_reducible apply wpl_loadCH); (· first | exact cell_errno | exact cell_u64); (· rfl); (· rfl); (· exact H); (· (repeat (first | (with_reducible exact List.mem_cons_self) | with_reducible apply List.mem_cons_of_mem))); (· (with_reducible first | exact rlet_g0 .. | exact rlet_g1 .. | exact rlet_g2 .. | exact rlet_g3 .. | exact rlet_g4 .. | exact rlet_g5 .. | exact rlet_g6 .. | exact rlet_g7 .. | exact rlet_g8 .. | exact rlet_g9 .. | exact rlet_g10 .. | exact rlet_g11 .. | exact rlet_g12 .. | exact rlet_g13 .. | exact rlet_g14 .. | exact rlet_g15 .. | exact rlet_g16 ..)); (simp only [Act.put, List.setIfInBounds_toArray, List.set_cons_zero, List.set_cons_succ])) | (first | ((with_reducible show wpList _ _ _ (_ :: _) _ _); (with_reducible apply wpl_storeIH); (· exact cell_i64); (· rfl); (· rfl); (· rfl); (· exact H); (· (repeat (first | (with_reducible exact List.mem_cons_self) | with_reducible apply List.mem_cons_of_mem))); (· (simp only [rcl_sz, Nat.reduceLT]; done)); (· (with_reducible first | exact rcl_s0 .. | exact rcl_s1 .. | exact rcl_s2 .. | exact rcl_s3 .. | exact rcl_s4 .. | exact rcl_s5 .. | exact rcl_s6 ..)); (· (repeat (first | (with_reducible exact Repl.here) | with_reducible apply Repl.there))); (clear H; intro _ H); (simp only [Act.put, List.setIfInBounds_toArray, List.set_cons_zero, List.set_cons_succ])) | ((with_reducible show wpList _ _ _ (_ :: _) _ _); (with_reducible apply wpl_storeBH); (· exact cell_i64); (· rfl); (· rfl); (· rfl); (· exact H); (· (repeat (first | (with_reducible exact List.mem_cons_self) | with_reducible apply List.mem_cons_of_mem))); (· (simp only [rcl_sz, Nat.reduceLT]; done)); (· (with_reducible first | exact rcl_s0 .. | exact rcl_s1 .. | exact rcl_s2 .. | exact rcl_s3 .. | exact rcl_s4 .. | exact rcl_s5 .. | exact rcl_s6 ..)); (· (repeat (first | (with_reducible exact Repl.here) | with_reducible apply Repl.there))); (clear H; intro _ H); (simp only [Act.put, List.setIfInBounds_toArray, List.set_cons_zero, List.set_cons_succ])) | ((with_reducible show wpList _ _ _ (_ :: _) _ _); (with_reducible apply wpl_storeSH); (· exact cell_i64); (· rfl); (· rfl); (· rfl); (· exact H); (· (repeat (first | (with_reducible exact List.mem_cons_self) | with_reducible apply List.mem_cons_of_mem))); (· (simp only [rcl_sz, Nat.reduceLT]; done)); (· (with_reducible first | exact rcl_s0 .. | exact rcl_s1 .. | exact rcl_s2 .. | exact rcl_s3 .. | exact rcl_s4 .. | exact rcl_s5 .. | exact rcl_s6 ..)); (· (repeat (first | (with_reducible exact Repl.here) | with_reducible apply Repl.there))); (clear H; intro _ H); (simp only [Act.put, List.setIfInBounds_toArray, List.set_cons_zero, List.set_cons_succ])) | ((with_reducible show wpList _ _ _ (_ :: _) _ _); (with_reducible apply wpl_storePH); (· exact cell_i64); (· rfl); (· rfl); (· rfl); (· exact H); (· (repeat (first | (with_reducible exact List.mem_cons_self) | with_reducible apply List.mem_cons_of_mem))); (· (simp only [rcl_sz, Nat.reduceLT]; done)); (· (with_reducible first | exact rcl_s0 .. | exact rcl_s1 .. | exact rcl_s2 .. | exact rcl_s3 .. | exact rcl_s4 .. | exact rcl_s5 .. | exact rcl_s6 ..)); (· (repeat (first | (with_reducible exact Repl.here) | with_reducible apply Repl.there))); (clear H; intro _ H); (simp only [Act.put, List.setIfInBounds_toArray, List.set_cons_zero, List.set_cons_succ]))))
  rw [hw3] at H
  refine (rcalls_H p id n index num waits true a m c (H.pull (.there (.there .here))) HI.out.1 (by have := HI.out; omega)).mono ?_
  clear H
  rintro e w5 ⟨q, rfl, H⟩
  go_wp2_with (first | go_skip | ((with_reducible show wpList _ _ _ (_ :: _) _ _); (with_reducible apply wpl_storeRH row_rep); (· rfl); (· rfl); (· rfl); (· with_reducible exact repz_cells); (· exact H); (· (repeat (first | (with_reducible exact List.mem_cons_self) | with_reducible apply List.mem_cons_of_mem))); (· (simp only [rep_sz, Nat.reduceAdd, Nat.reduceLeDiff, Nat.le_refl]; done)); (· with_reducible exact repz_splice ..); (· (repeat (first | (with_reducible exact Repl.here) | with_reducible apply Repl.there))); (clear H; intro _ H); (simp only [Act.put, List.setIfInBounds_toArray, List.set_cons_zero, List.set_cons_succ])))
  exact ret_row3H row_rep rfl rfl rfl H (by (repeat (first | (with_reducible exact List.mem_cons_self) | with_reducible apply List.mem_cons_of_mem))) rfl rfl rfl ⟨q, rfl, (H.drop (.there (.there .here))).drop (.there (.there .here))⟩
theorem rtake_other (p : Nat) (id n to num waits : Int) (s : Value) (frm term index mark commit : Int) (yes : Bool) (entries data : Value) (steps : Value) (err rerr rat : Int) (got : Value)
    (hid : 0 ≤ id ∧ id ≤ 8) (hf : 0 ≤ frm ∧ frm ≤ 255) (hn : 1 ≤ n ∧ n ≤ 7) (e6 : decide (frm < 1) = false) (e7 : decide (n < frm) = false) (e8 : (err == 0) = false) (e9 : (err == 16) = false) (H : Heap W (RCl p id n to num true s waits :: l) w) :
    Calls Try.prog 22 #[.pointer (some ⟨p, 0, none⟩), .agg (rlet 7 frm (100 + id) term index mark commit yes entries data id num steps err rerr rat got)] w fun e w' =>
      e = .returned (.tuple #[.agg (rep 0 0 (.slice none 0 0)), .bool false, .slice none 0 0]) ∧ Heap W (RCl p id n to num true s waits :: l) w' := by
  have hw : IntKind.u8.wrap (100 + id) = 100 + id := IntWalk.u8_in _ (by omega)
  have hw1 : 0 ≤ 100 + id := by omega
  have hw2 : 100 + id ≤ 255 := by omega
  have f0 : 0 ≤ frm := by omega
  have f1 : frm ≤ 255 := by omega
  have hw4 : IntKind.u64.wrap n = n := IntWalk.u64_in _ (by omega)
  have hw5 : IntKind.u64.wrap frm = frm := IntWalk.u64_in _ (by omega)
  clear hid hf hn
  go_enter Try.func22, Try.ntmps22
  go_wp2_with (first | go_skip | ((with_reducible show wpList _ _ _ (_ :: _) _ _); (with_reducible apply wpl_boxRH); (· rfl); (· rfl); (· exact H); (clear H; intro px _ H); (simp only [Act.put, List.setIfInBounds_toArray, List.set_cons_zero, List.set_cons_succ])) | ((with_reducible show wpList _ _ _ (_ :: _) _ _); (with_reducible apply wpl_allocRH row_rep); (· rfl); (· exact H); (clear H; intro pz _ H); (simp only [Act.put, List.setIfInBounds_toArray, List.set_cons_zero, List.set_cons_succ])))
  refine wp_region_H H (by kernel_rfl) (by kernel_rfl) ?_
  repeat (first | go_big_quiet_skip | ((with_reducible apply wpQ_loadCH); (· first | exact cell_b8 | exact cell_u64 | exact cell_i64 | exact cell_bool); (· rfl); (· rfl); (· (repeat (first | (with_reducible exact List.mem_cons_self) | with_reducible apply List.mem_cons_of_mem))); (· (with_reducible first | exact rcl_g0 .. | exact rcl_g1 .. | exact rcl_g2 .. | exact rcl_g3 .. | exact rcl_g4 .. | exact rcl_g5 .. | exact rcl_g6 .. | exact rlet_g0 .. | exact rlet_g1 .. | exact rlet_g2 .. | exact rlet_g3 .. | exact rlet_g4 .. | exact rlet_g5 .. | exact rlet_g6 .. | exact rlet_g7 .. | exact rlet_g8 .. | exact rlet_g9 .. | exact rlet_g10 .. | exact rlet_g11 .. | exact rlet_g12 .. | exact rlet_g13 .. | exact rlet_g14 .. | exact rlet_g15 .. | exact rlet_g16 ..)); (simp only [Act.put, List.setIfInBounds_toArray, List.set_cons_zero, List.set_cons_succ])) | go_big_quiet_step (fail))
  refine wpQuiet_nil ?_
  clear H
  intro _ H
  go_wp2_with (first | go_skip | ((with_reducible show wpList _ _ _ (_ :: _) _ _); (with_reducible apply wpl_loadCH); (· first | exact cell_errno | exact cell_u64); (· rfl); (· rfl); (· exact H); (· (repeat (first | (with_reducible exact List.mem_cons_self) | with_reducible apply List.mem_cons_of_mem))); (· (with_reducible first | exact rlet_g0 .. | exact rlet_g1 .. | exact rlet_g2 .. | exact rlet_g3 .. | exact rlet_g4 .. | exact rlet_g5 .. | exact rlet_g6 .. | exact rlet_g7 .. | exact rlet_g8 .. | exact rlet_g9 .. | exact rlet_g10 .. | exact rlet_g11 .. | exact rlet_g12 .. | exact rlet_g13 .. | exact rlet_g14 .. | exact rlet_g15 .. | exact rlet_g16 ..)); (simp only [Act.put, List.setIfInBounds_toArray, List.set_cons_zero, List.set_cons_succ])))
  refine wp_region_H H (by kernel_rfl) (by kernel_rfl) ?_
  repeat (first | go_big_quiet_skip | ((with_reducible apply wpQ_loadCH); (· first | exact cell_b8 | exact cell_u64 | exact cell_i64 | exact cell_errno); (· rfl); (· rfl); (· (repeat (first | (with_reducible exact List.mem_cons_self) | with_reducible apply List.mem_cons_of_mem))); (· (with_reducible first | exact rcl_g0 .. | exact rcl_g1 .. | exact rcl_g2 .. | exact rcl_g3 .. | exact rcl_g4 .. | exact rcl_g5 .. | exact rcl_g6 .. | exact rlet_g0 .. | exact rlet_g1 .. | exact rlet_g2 .. | exact rlet_g3 .. | exact rlet_g4 .. | exact rlet_g5 .. | exact rlet_g6 .. | exact rlet_g7 .. | exact rlet_g8 .. | exact rlet_g9 .. | exact rlet_g10 .. | exact rlet_g11 .. | exact rlet_g12 .. | exact rlet_g13 .. | exact rlet_g14 .. | exact rlet_g15 .. | exact rlet_g16 ..)); (simp only [Act.put, List.setIfInBounds_toArray, List.set_cons_zero, List.set_cons_succ])) | go_big_quiet_step (fail))
  refine wpQuiet_nil ?_
  clear H
  intro _ H
  go_wp2_with (first | go_skip | ((with_reducible show wpList _ _ _ (_ :: _) _ _); (with_reducible apply wpl_storeRH row_rep); (· rfl); (· rfl); (· rfl); (· with_reducible exact repz_cells); (· exact H); (· (repeat (first | (with_reducible exact List.mem_cons_self) | with_reducible apply List.mem_cons_of_mem))); (· (simp only [rep_sz, Nat.reduceAdd, Nat.reduceLeDiff, Nat.le_refl]; done)); (· with_reducible exact repz_splice ..); (· (repeat (first | (with_reducible exact Repl.here) | with_reducible apply Repl.there))); (clear H; intro _ H); (simp only [Act.put, List.setIfInBounds_toArray, List.set_cons_zero, List.set_cons_succ])))
  exact ret_row3H row_rep rfl rfl rfl H List.mem_cons_self rfl rfl rfl ⟨rfl, H.tail.tail⟩
theorem rtake_zero (p : Nat) (id n to num waits : Int) (s : Value) (frm term index mark commit : Int) (yes : Bool) (entries data : Value) (steps : Value) (err rerr rat : Int) (got : Value)
    (hid : 0 ≤ id ∧ id ≤ 8) (hf : 0 ≤ frm ∧ frm ≤ 255) (hn : 1 ≤ n ∧ n ≤ 7) (e6 : decide (frm < 1) = false) (e7 : decide (n < frm) = false) (e8 : (err == 0) = false) (e9 : (err == 16) = true) (e10 : decide (1 ≤ index) = false) (H : Heap W (RCl p id n to num true s waits :: l) w) :
    Calls Try.prog 22 #[.pointer (some ⟨p, 0, none⟩), .agg (rlet 7 frm (100 + id) term index mark commit yes entries data id num steps err rerr rat got)] w fun e w' =>
      e = .returned (.tuple #[.agg (rep 0 0 (.slice none 0 0)), .bool false, .slice none 0 0]) ∧ Heap W (RCl p id n to num true s waits :: l) w' := by
  have hw : IntKind.u8.wrap (100 + id) = 100 + id := IntWalk.u8_in _ (by omega)
  have hw1 : 0 ≤ 100 + id := by omega
  have hw2 : 100 + id ≤ 255 := by omega
  have f0 : 0 ≤ frm := by omega
  have f1 : frm ≤ 255 := by omega
  have hw4 : IntKind.u64.wrap n = n := IntWalk.u64_in _ (by omega)
  have hw5 : IntKind.u64.wrap frm = frm := IntWalk.u64_in _ (by omega)
  clear hid hf hn
  go_enter Try.func22, Try.ntmps22
  go_wp2_with (first | go_skip | ((with_reducible show wpList _ _ _ (_ :: _) _ _); (with_reducible apply wpl_boxRH); (· rfl); (· rfl); (· exact H); (clear H; intro px _ H); (simp only [Act.put, List.setIfInBounds_toArray, List.set_cons_zero, List.set_cons_succ])) | ((with_reducible show wpList _ _ _ (_ :: _) _ _); (with_reducible apply wpl_allocRH row_rep); (· rfl); (· exact H); (clear H; intro pz _ H); (simp only [Act.put, List.setIfInBounds_toArray, List.set_cons_zero, List.set_cons_succ])))
  refine wp_region_H H (by kernel_rfl) (by kernel_rfl) ?_
  repeat (first | go_big_quiet_skip | ((with_reducible apply wpQ_loadCH); (· first | exact cell_b8 | exact cell_u64 | exact cell_i64 | exact cell_bool); (· rfl); (· rfl); (· (repeat (first | (with_reducible exact List.mem_cons_self) | with_reducible apply List.mem_cons_of_mem))); (· (with_reducible first | exact rcl_g0 .. | exact rcl_g1 .. | exact rcl_g2 .. | exact rcl_g3 .. | exact rcl_g4 .. | exact rcl_g5 .. | exact rcl_g6 .. | exact rlet_g0 .. | exact rlet_g1 .. | exact rlet_g2 .. | exact rlet_g3 .. | exact rlet_g4 .. | exact rlet_g5 .. | exact rlet_g6 .. | exact rlet_g7 .. | exact rlet_g8 .. | exact rlet_g9 .. | exact rlet_g10 .. | exact rlet_g11 .. | exact rlet_g12 .. | exact rlet_g13 .. | exact rlet_g14 .. | exact rlet_g15 .. | exact rlet_g16 ..)); (simp only [Act.put, List.setIfInBounds_toArray, List.set_cons_zero, List.set_cons_succ])) | go_big_quiet_step (fail))
  refine wpQuiet_nil ?_
  clear H
  intro _ H
  go_wp2_with (first | go_skip | ((with_reducible show wpList _ _ _ (_ :: _) _ _); (with_reducible apply wpl_loadCH); (· first | exact cell_errno | exact cell_u64); (· rfl); (· rfl); (· exact H); (· (repeat (first | (with_reducible exact List.mem_cons_self) | with_reducible apply List.mem_cons_of_mem))); (· (with_reducible first | exact rlet_g0 .. | exact rlet_g1 .. | exact rlet_g2 .. | exact rlet_g3 .. | exact rlet_g4 .. | exact rlet_g5 .. | exact rlet_g6 .. | exact rlet_g7 .. | exact rlet_g8 .. | exact rlet_g9 .. | exact rlet_g10 .. | exact rlet_g11 .. | exact rlet_g12 .. | exact rlet_g13 .. | exact rlet_g14 .. | exact rlet_g15 .. | exact rlet_g16 ..)); (simp only [Act.put, List.setIfInBounds_toArray, List.set_cons_zero, List.set_cons_succ])))
  refine wp_region_H H (by kernel_rfl) (by kernel_rfl) ?_
  repeat (first | go_big_quiet_skip | ((with_reducible apply wpQ_loadCH); (· first | exact cell_b8 | exact cell_u64 | exact cell_i64 | exact cell_errno); (· rfl); (· rfl); (· (repeat (first | (with_reducible exact List.mem_cons_self) | with_reducible apply List.mem_cons_of_mem))); (· (with_reducible first | exact rcl_g0 .. | exact rcl_g1 .. | exact rcl_g2 .. | exact rcl_g3 .. | exact rcl_g4 .. | exact rcl_g5 .. | exact rcl_g6 .. | exact rlet_g0 .. | exact rlet_g1 .. | exact rlet_g2 .. | exact rlet_g3 .. | exact rlet_g4 .. | exact rlet_g5 .. | exact rlet_g6 .. | exact rlet_g7 .. | exact rlet_g8 .. | exact rlet_g9 .. | exact rlet_g10 .. | exact rlet_g11 .. | exact rlet_g12 .. | exact rlet_g13 .. | exact rlet_g14 .. | exact rlet_g15 .. | exact rlet_g16 ..)); (simp only [Act.put, List.setIfInBounds_toArray, List.set_cons_zero, List.set_cons_succ])) | go_big_quiet_step (fail))
  refine wpQuiet_nil ?_
  clear H
  intro _ H
  go_wp2_with (first | go_skip | ((with_reducible show wpList _ _ _ (_ :: _) _ _); (with_reducible apply wpl_storeRH row_rep); (· rfl); (· rfl); (· rfl); (· with_reducible exact repz_cells); (· exact H); (· (repeat (first | (with_reducible exact List.mem_cons_self) | with_reducible apply List.mem_cons_of_mem))); (· (simp only [rep_sz, Nat.reduceAdd, Nat.reduceLeDiff, Nat.le_refl]; done)); (· with_reducible exact repz_splice ..); (· (repeat (first | (with_reducible exact Repl.here) | with_reducible apply Repl.there))); (clear H; intro _ H); (simp only [Act.put, List.setIfInBounds_toArray, List.set_cons_zero, List.set_cons_succ])))
  exact ret_row3H row_rep rfl rfl rfl H List.mem_cons_self rfl rfl rfl ⟨rfl, H.tail.tail⟩
theorem rtake_far (p : Nat) (id n to num waits : Int) (s : Value) (frm term index mark commit : Int) (yes : Bool) (entries data : Value) (steps : Value) (err rerr rat : Int) (got : Value)
    (hid : 0 ≤ id ∧ id ≤ 8) (hf : 0 ≤ frm ∧ frm ≤ 255) (hn : 1 ≤ n ∧ n ≤ 7) (e6 : decide (frm < 1) = false) (e7 : decide (n < frm) = false) (e8 : (err == 0) = false) (e9 : (err == 16) = true) (e10 : decide (1 ≤ index) = true) (e11 : decide (index ≤ n) = false) (H : Heap W (RCl p id n to num true s waits :: l) w) :
    Calls Try.prog 22 #[.pointer (some ⟨p, 0, none⟩), .agg (rlet 7 frm (100 + id) term index mark commit yes entries data id num steps err rerr rat got)] w fun e w' =>
      e = .returned (.tuple #[.agg (rep 0 0 (.slice none 0 0)), .bool false, .slice none 0 0]) ∧ Heap W (RCl p id n to num true s waits :: l) w' := by
  have hw : IntKind.u8.wrap (100 + id) = 100 + id := IntWalk.u8_in _ (by omega)
  have hw1 : 0 ≤ 100 + id := by omega
  have hw2 : 100 + id ≤ 255 := by omega
  have f0 : 0 ≤ frm := by omega
  have f1 : frm ≤ 255 := by omega
  have hw4 : IntKind.u64.wrap n = n := IntWalk.u64_in _ (by omega)
  have hw5 : IntKind.u64.wrap frm = frm := IntWalk.u64_in _ (by omega)
  clear hid hf hn
  go_enter Try.func22, Try.ntmps22
  go_wp2_with (first | go_skip | ((with_reducible show wpList _ _ _ (_ :: _) _ _); (with_reducible apply wpl_boxRH); (· rfl); (· rfl); (· exact H); (clear H; intro px _ H); (simp only [Act.put, List.setIfInBounds_toArray, List.set_cons_zero, List.set_cons_succ])) | ((with_reducible show wpList _ _ _ (_ :: _) _ _); (with_reducible apply wpl_allocRH row_rep); (· rfl); (· exact H); (clear H; intro pz _ H); (simp only [Act.put, List.setIfInBounds_toArray, List.set_cons_zero, List.set_cons_succ])))
  refine wp_region_H H (by kernel_rfl) (by kernel_rfl) ?_
  repeat (first | go_big_quiet_skip | ((with_reducible apply wpQ_loadCH); (· first | exact cell_b8 | exact cell_u64 | exact cell_i64 | exact cell_bool); (· rfl); (· rfl); (· (repeat (first | (with_reducible exact List.mem_cons_self) | with_reducible apply List.mem_cons_of_mem))); (· (with_reducible first | exact rcl_g0 .. | exact rcl_g1 .. | exact rcl_g2 .. | exact rcl_g3 .. | exact rcl_g4 .. | exact rcl_g5 .. | exact rcl_g6 .. | exact rlet_g0 .. | exact rlet_g1 .. | exact rlet_g2 .. | exact rlet_g3 .. | exact rlet_g4 .. | exact rlet_g5 .. | exact rlet_g6 .. | exact rlet_g7 .. | exact rlet_g8 .. | exact rlet_g9 .. | exact rlet_g10 .. | exact rlet_g11 .. | exact rlet_g12 .. | exact rlet_g13 .. | exact rlet_g14 .. | exact rlet_g15 .. | exact rlet_g16 ..)); (simp only [Act.put, List.setIfInBounds_toArray, List.set_cons_zero, List.set_cons_succ])) | go_big_quiet_step (fail))
  refine wpQuiet_nil ?_
  clear H
  intro _ H
  go_wp2_with (first | go_skip | ((with_reducible show wpList _ _ _ (_ :: _) _ _); (with_reducible apply wpl_loadCH); (· first | exact cell_errno | exact cell_u64); (· rfl); (· rfl); (· exact H); (· (repeat (first | (with_reducible exact List.mem_cons_self) | with_reducible apply List.mem_cons_of_mem))); (· (with_reducible first | exact rlet_g0 .. | exact rlet_g1 .. | exact rlet_g2 .. | exact rlet_g3 .. | exact rlet_g4 .. | exact rlet_g5 .. | exact rlet_g6 .. | exact rlet_g7 .. | exact rlet_g8 .. | exact rlet_g9 .. | exact rlet_g10 .. | exact rlet_g11 .. | exact rlet_g12 .. | exact rlet_g13 .. | exact rlet_g14 .. | exact rlet_g15 .. | exact rlet_g16 ..)); (simp only [Act.put, List.setIfInBounds_toArray, List.set_cons_zero, List.set_cons_succ])))
  refine wp_region_H H (by kernel_rfl) (by kernel_rfl) ?_
  repeat (first | go_big_quiet_skip | ((with_reducible apply wpQ_loadCH); (· first | exact cell_b8 | exact cell_u64 | exact cell_i64 | exact cell_errno); (· rfl); (· rfl); (· (repeat (first | (with_reducible exact List.mem_cons_self) | with_reducible apply List.mem_cons_of_mem))); (· (with_reducible first | exact rcl_g0 .. | exact rcl_g1 .. | exact rcl_g2 .. | exact rcl_g3 .. | exact rcl_g4 .. | exact rcl_g5 .. | exact rcl_g6 .. | exact rlet_g0 .. | exact rlet_g1 .. | exact rlet_g2 .. | exact rlet_g3 .. | exact rlet_g4 .. | exact rlet_g5 .. | exact rlet_g6 .. | exact rlet_g7 .. | exact rlet_g8 .. | exact rlet_g9 .. | exact rlet_g10 .. | exact rlet_g11 .. | exact rlet_g12 .. | exact rlet_g13 .. | exact rlet_g14 .. | exact rlet_g15 .. | exact rlet_g16 ..)); (simp only [Act.put, List.setIfInBounds_toArray, List.set_cons_zero, List.set_cons_succ])) | go_big_quiet_step (fail))
  refine wpQuiet_nil ?_
  clear H
  intro _ H
  go_wp2_with (first | go_skip | ((with_reducible show wpList _ _ _ (_ :: _) _ _); (with_reducible apply wpl_storeRH row_rep); (· rfl); (· rfl); (· rfl); (· with_reducible exact repz_cells); (· exact H); (· (repeat (first | (with_reducible exact List.mem_cons_self) | with_reducible apply List.mem_cons_of_mem))); (· (simp only [rep_sz, Nat.reduceAdd, Nat.reduceLeDiff, Nat.le_refl]; done)); (· with_reducible exact repz_splice ..); (· (repeat (first | (with_reducible exact Repl.here) | with_reducible apply Repl.there))); (clear H; intro _ H); (simp only [Act.put, List.setIfInBounds_toArray, List.set_cons_zero, List.set_cons_succ])))
  exact ret_row3H row_rep rfl rfl rfl H List.mem_cons_self rfl rfl rfl ⟨rfl, H.tail.tail⟩
theorem rtake_self (p : Nat) (id n to num waits : Int) (s : Value) (frm term index mark commit : Int) (yes : Bool) (entries data : Value) (steps : Value) (err rerr rat : Int) (got : Value)
    (hid : 0 ≤ id ∧ id ≤ 8) (hf : 0 ≤ frm ∧ frm ≤ 255) (hn : 1 ≤ n ∧ n ≤ 7) (e6 : decide (frm < 1) = false) (e7 : decide (n < frm) = false) (e8 : (err == 0) = false) (e9 : (err == 16) = true) (e10 : decide (1 ≤ index) = true) (e11 : decide (index ≤ n) = true) (e12 : (index != frm) = false) (H : Heap W (RCl p id n to num true s waits :: l) w) :
    Calls Try.prog 22 #[.pointer (some ⟨p, 0, none⟩), .agg (rlet 7 frm (100 + id) term index mark commit yes entries data id num steps err rerr rat got)] w fun e w' =>
      e = .returned (.tuple #[.agg (rep 0 0 (.slice none 0 0)), .bool false, .slice none 0 0]) ∧ Heap W (RCl p id n to num true s waits :: l) w' := by
  have hw : IntKind.u8.wrap (100 + id) = 100 + id := IntWalk.u8_in _ (by omega)
  have hw1 : 0 ≤ 100 + id := by omega
  have hw2 : 100 + id ≤ 255 := by omega
  have f0 : 0 ≤ frm := by omega
  have f1 : frm ≤ 255 := by omega
  have hw4 : IntKind.u64.wrap n = n := IntWalk.u64_in _ (by omega)
  have hw5 : IntKind.u64.wrap frm = frm := IntWalk.u64_in _ (by omega)
  clear hid hf hn
  go_enter Try.func22, Try.ntmps22
  go_wp2_with (first | go_skip | ((with_reducible show wpList _ _ _ (_ :: _) _ _); (with_reducible apply wpl_boxRH); (· rfl); (· rfl); (· exact H); (clear H; intro px _ H); (simp only [Act.put, List.setIfInBounds_toArray, List.set_cons_zero, List.set_cons_succ])) | ((with_reducible show wpList _ _ _ (_ :: _) _ _); (with_reducible apply wpl_allocRH row_rep); (· rfl); (· exact H); (clear H; intro pz _ H); (simp only [Act.put, List.setIfInBounds_toArray, List.set_cons_zero, List.set_cons_succ])))
  refine wp_region_H H (by kernel_rfl) (by kernel_rfl) ?_
  repeat (first | go_big_quiet_skip | ((with_reducible apply wpQ_loadCH); (· first | exact cell_b8 | exact cell_u64 | exact cell_i64 | exact cell_bool); (· rfl); (· rfl); (· (repeat (first | (with_reducible exact List.mem_cons_self) | with_reducible apply List.mem_cons_of_mem))); (· (with_reducible first | exact rcl_g0 .. | exact rcl_g1 .. | exact rcl_g2 .. | exact rcl_g3 .. | exact rcl_g4 .. | exact rcl_g5 .. | exact rcl_g6 .. | exact rlet_g0 .. | exact rlet_g1 .. | exact rlet_g2 .. | exact rlet_g3 .. | exact rlet_g4 .. | exact rlet_g5 .. | exact rlet_g6 .. | exact rlet_g7 .. | exact rlet_g8 .. | exact rlet_g9 .. | exact rlet_g10 .. | exact rlet_g11 .. | exact rlet_g12 .. | exact rlet_g13 .. | exact rlet_g14 .. | exact rlet_g15 .. | exact rlet_g16 ..)); (simp only [Act.put, List.setIfInBounds_toArray, List.set_cons_zero, List.set_cons_succ])) | go_big_quiet_step (fail))
  refine wpQuiet_nil ?_
  clear H
  intro _ H
  go_wp2_with (first | go_skip | ((with_reducible show wpList _ _ _ (_ :: _) _ _); (with_reducible apply wpl_loadCH); (· first | exact cell_errno | exact cell_u64); (· rfl); (· rfl); (· exact H); (· (repeat (first | (with_reducible exact List.mem_cons_self) | with_reducible apply List.mem_cons_of_mem))); (· (with_reducible first | exact rlet_g0 .. | exact rlet_g1 .. | exact rlet_g2 .. | exact rlet_g3 .. | exact rlet_g4 .. | exact rlet_g5 .. | exact rlet_g6 .. | exact rlet_g7 .. | exact rlet_g8 .. | exact rlet_g9 .. | exact rlet_g10 .. | exact rlet_g11 .. | exact rlet_g12 .. | exact rlet_g13 .. | exact rlet_g14 .. | exact rlet_g15 .. | exact rlet_g16 ..)); (simp only [Act.put, List.setIfInBounds_toArray, List.set_cons_zero, List.set_cons_succ])))
  refine wp_region_H H (by kernel_rfl) (by kernel_rfl) ?_
  repeat (first | go_big_quiet_skip | ((with_reducible apply wpQ_loadCH); (· first | exact cell_b8 | exact cell_u64 | exact cell_i64 | exact cell_errno); (· rfl); (· rfl); (· (repeat (first | (with_reducible exact List.mem_cons_self) | with_reducible apply List.mem_cons_of_mem))); (· (with_reducible first | exact rcl_g0 .. | exact rcl_g1 .. | exact rcl_g2 .. | exact rcl_g3 .. | exact rcl_g4 .. | exact rcl_g5 .. | exact rcl_g6 .. | exact rlet_g0 .. | exact rlet_g1 .. | exact rlet_g2 .. | exact rlet_g3 .. | exact rlet_g4 .. | exact rlet_g5 .. | exact rlet_g6 .. | exact rlet_g7 .. | exact rlet_g8 .. | exact rlet_g9 .. | exact rlet_g10 .. | exact rlet_g11 .. | exact rlet_g12 .. | exact rlet_g13 .. | exact rlet_g14 .. | exact rlet_g15 .. | exact rlet_g16 ..)); (simp only [Act.put, List.setIfInBounds_toArray, List.set_cons_zero, List.set_cons_succ])) | go_big_quiet_step (fail))
  refine wpQuiet_nil ?_
  clear H
  intro _ H
  go_wp2_with (first | go_skip | ((with_reducible show wpList _ _ _ (_ :: _) _ _); (with_reducible apply wpl_storeRH row_rep); (· rfl); (· rfl); (· rfl); (· with_reducible exact repz_cells); (· exact H); (· (repeat (first | (with_reducible exact List.mem_cons_self) | with_reducible apply List.mem_cons_of_mem))); (· (simp only [rep_sz, Nat.reduceAdd, Nat.reduceLeDiff, Nat.le_refl]; done)); (· with_reducible exact repz_splice ..); (· (repeat (first | (with_reducible exact Repl.here) | with_reducible apply Repl.there))); (clear H; intro _ H); (simp only [Act.put, List.setIfInBounds_toArray, List.set_cons_zero, List.set_cons_succ])))
  exact ret_row3H row_rep rfl rfl rfl H List.mem_cons_self rfl rfl rfl ⟨rfl, H.tail.tail⟩
end
end Go.Proofs.Ytjipelhcgglhhaa

/- countinghouselaw23.Great, countinghouselaw27.great: they return. -/
namespace Go.Proofs.Ytjipelhcgglhhaa
open Go.RowKit
set_option linter.unusedSimpArgs false
set_option linter.unusedVariables false
theorem cell_entries : CellTy 27 := ⟨⟨_, Try.underlying27, rfl⟩, by kernel_rfl⟩
theorem cell_bytes : CellTy 28 := ⟨⟨_, Try.underlying28, rfl⟩, by kernel_rfl⟩
/-- It answers yes or no, and the things lie as they lay. -/
def SomeB (W : World) (l : List Thing) (e : Ending) (w' : World) : Prop := ∃ b, e = .returned (.bool b) ∧ Heap W l w'
theorem SomeB.mk {W : World} {l : List Thing} {b : Bool} {w' : World} (h : Heap W l w') : SomeB W l (.returned (.bool b)) w' := ⟨b, rfl, h⟩
section
variable {W w : World} {l : List Thing}
set_option maxRecDepth 100000
set_option maxHeartbeats 1000000
theorem ext_cell_old (H : Heap W l w) {b o : Nat} (hb : b < W.heap.size) : w.cell? ⟨b, o, none⟩ = W.cell? ⟨b, o, none⟩ := H.low.cell (p := ⟨b, o, none⟩) hb
end
def act (kd : Int) (csteps : Value) (kind : Int) (frm : Int) (lto : Int) (term : Int) (index : Int) (mark : Int) (commit : Int) (yes : Bool) (entries : Value) (data : Value) (cid : Int) (cnum : Int) (steps : Value) (err : Int) (rerr : Int) (rat : Int) (got : Value) (near : Bool) : Array Value := #[.int .u8 kd, csteps, .int .u8 kind, .int .u8 frm, .int .u8 lto, .int .u64 term, .int .u64 index, .int .u64 mark, .int .u64 commit, .bool yes, entries, data, .int .u8 cid, .int .u64 cnum, steps, .int .i64 err, .int .i64 rerr, .int .i64 rat, got, .bool near]
section
variable (kd : Int) (csteps : Value) (kind : Int) (frm : Int) (lto : Int) (term : Int) (index : Int) (mark : Int) (commit : Int) (yes : Bool) (entries : Value) (data : Value) (cid : Int) (cnum : Int) (steps : Value) (err : Int) (rerr : Int) (rat : Int) (got : Value) (near : Bool)
theorem act_sz : (act kd csteps kind frm lto term index mark commit yes entries data cid cnum steps err rerr rat got near).size = 20 := rfl
theorem act_g0 : (act kd csteps kind frm lto term index mark commit yes entries data cid cnum steps err rerr rat got near)[0]? = some (.int .u8 kd) := rfl
theorem act_g1 : (act kd csteps kind frm lto term index mark commit yes entries data cid cnum steps err rerr rat got near)[1]? = some (csteps) := rfl
theorem act_g19 : (act kd csteps kind frm lto term index mark commit yes entries data cid cnum steps err rerr rat got near)[19]? = some (.bool near) := rfl
end
section
variable (kd : Int) (csteps : Value) (kind frm lto term index mark commit : Int) (yes : Bool) (entries data : Value) (cid cnum : Int) (steps : Value) (err rerr rat : Int) (got : Value) (near : Bool)
theorem act_letg : (act kd csteps kind frm lto term index mark commit yes entries data cid cnum steps err rerr rat got near).extract 2 (2 + 17) = letg kind frm lto term index mark commit yes entries data cid cnum steps err rerr rat got := by simp [act, letg]
theorem act_cmd : (act kd csteps kind frm lto term index mark commit yes entries data cid cnum steps err rerr rat got near).extract 1 (1 + 1) = #[csteps] := by simp [act]
end
abbrev actz : Array Value := act 0 (.slice none 0 0) 0 0 0 0 0 0 0 false (.slice none 0 0) (.slice none 0 0) 0 0 (.slice none 0 0) 0 0 0 (.slice none 0 0) false
theorem row_act : RowTy 38 20 actz := ⟨⟨_, Try.underlying38, rfl⟩, by kernel_rfl, by kernel_rfl⟩
section
variable {W w : World} {l : List Thing}
set_option maxRecDepth 100000
set_option maxHeartbeats 1000000
end
end Go.Proofs.Ytjipelhcgglhhaa
