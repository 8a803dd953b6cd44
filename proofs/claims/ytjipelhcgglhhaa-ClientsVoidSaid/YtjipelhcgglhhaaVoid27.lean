/- clients.Client that is not there, or that no call made. -/
import Derived.Test.YtjipelhcgglhhaaLives27
namespace Go.Proofs.Ytjipelhcgglhhaa
open Go.RowKit
set_option linter.unusedSimpArgs false
set_option linter.unusedVariables false
section
variable {W w : World} {l : List Thing} {R : Ending → World → Prop}
set_option maxRecDepth 100000
set_option maxHeartbeats 1000000
theorem there_nil : Ans 26 #[.pointer none] (.bool false) := Ans.same fun w => there_none w
theorem open_nil : Ans 11 #[.pointer none] (.bool false) := by
  intro w
  have h := there_nil
  go_enter Try.func11, Try.ntmps11
  go_wp2_with ((with_reducible refine Ans.call (by assumption) ?_); intro _)
  go_ret
  exact ⟨rfl, (by repeat (first | exact Ext.refl _ | refine Ext.alloc ?_ _ | refine Ext.ext ?_ _ | refine Ext.drew ?_))⟩
theorem num_nil : Ans 12 #[.pointer none] (.int .u64 0) := by
  intro w
  have h := there_nil
  go_enter Try.func12, Try.ntmps12
  go_wp2_with ((with_reducible refine Ans.call (by assumption) ?_); intro _)
  go_ret
  exact ⟨rfl, (by repeat (first | exact Ext.refl _ | refine Ext.alloc ?_ _ | refine Ext.ext ?_ _ | refine Ext.drew ?_))⟩
theorem tick_nil : Ans 10 #[.pointer none] (.slice none 0 0) := by
  intro w
  have h := open_nil
  go_enter Try.func10, Try.ntmps10
  go_wp2_with ((with_reducible refine Ans.call (by assumption) ?_); intro _)
  go_ret
  exact ⟨rfl, (by repeat (first | exact Ext.refl _ | refine Ext.alloc ?_ _ | refine Ext.ext ?_ _ | refine Ext.drew ?_))⟩
abbrev clz : Array Value := cli 0 0 0 0 0 0 0 0 0 0 (.slice none 0 0) false
variable {p : Nat}
theorem open_zero (m : Cel p clz 45 ∈ l) : AnsH W l 11 #[.pointer (some ⟨p, 0, none⟩)] (.bool false) := by
  intro w H
  go_enter Try.func11, Try.ntmps11
  go_wp2_with (first | go_skip | ((with_reducible apply there_call H); (· exact m); (· rfl); (clear H; intro _ H)))
  go_ret
  exact ⟨rfl, H⟩
theorem num_zero (m : Cel p clz 45 ∈ l) : AnsH W l 12 #[.pointer (some ⟨p, 0, none⟩)] (.int .u64 0) := by
  intro w H
  go_enter Try.func12, Try.ntmps12
  go_wp2_with (first | go_skip | ((with_reducible apply there_call H); (· exact m); (· rfl); (clear H; intro _ H)))
  go_ret
  exact ⟨rfl, H⟩
theorem open_zcall (H : Heap W l w) (m : Cel p clz 45 ∈ l) (k : ∀ w', Heap W l w' → R (.returned (.bool false)) w') : Calls Try.prog 11 #[.pointer (some ⟨p, 0, none⟩)] w R := (open_zero m).call H k
theorem tick_zero (m : Cel p clz 45 ∈ l) : AnsH W l 10 #[.pointer (some ⟨p, 0, none⟩)] (.slice none 0 0) := by
  intro w H
  go_enter Try.func10, Try.ntmps10
  go_wp2_with (first | go_skip | ((with_reducible apply open_zcall H); (· exact m); (clear H; intro _ H)))
  go_ret
  exact ⟨rfl, H⟩
theorem call_nil (x : Value) : AnsH W l 8 #[.pointer none, .agg #[x]] (.tuple #[.slice none 0 0, .int .i64 2]) := by
  intro w H
  have hth := there_nil
  go_enter Try.func8, Try.ntmps8
  go_wp2_with (first
    | go_skip
    | ((with_reducible show wpList _ _ _ (_ :: _) _ _); (with_reducible apply wpl_boxRH); (· rfl); (· rfl); (· exact H); (clear H; intro px _ H); (simp only [Act.put, List.setIfInBounds_toArray, List.set_cons_zero, List.set_cons_succ]))
    | ((with_reducible refine Ans.callH (by assumption) H ?_); clear H; intro _ H))
  go_ret2
  exact ⟨rfl, H.tail⟩
theorem take_nil (kind frm lto term index mark commit : Int) (yes : Bool) (entries data : Value) (cid cnum : Int) (steps : Value) (err rerr rat : Int) (got : Value) : AnsH W l 9 #[.pointer none, .agg (letg kind frm lto term index mark commit yes entries data cid cnum steps err rerr rat got)] (.tuple #[.agg (rep 0 0 (.slice none 0 0)), .bool false, .slice none 0 0]) := by
  intro w H
  have hop := open_nil
  go_enter Try.func9, Try.ntmps9
  go_wp2_with (first
    | go_skip
    | ((with_reducible show wpList _ _ _ (_ :: _) _ _); (with_reducible apply wpl_boxRH); (· rfl); (· rfl); (· exact H); (clear H; intro px _ H); (simp only [Act.put, List.setIfInBounds_toArray, List.set_cons_zero, List.set_cons_succ]))
    | ((with_reducible show wpList _ _ _ (_ :: _) _ _); (with_reducible apply wpl_boxPH); (· rfl); (· rfl); (· exact H); (clear H; intro py _ H); (simp only [Act.put, List.setIfInBounds_toArray, List.set_cons_zero, List.set_cons_succ]))
    | ((with_reducible show wpList _ _ _ (_ :: _) _ _); (with_reducible apply wpl_allocRH row_rep); (· rfl); (· exact H); (clear H; intro pz _ H); (simp only [Act.put, List.setIfInBounds_toArray, List.set_cons_zero, List.set_cons_succ])))
  change Heap _ (_ :: _ :: Cel py (one _) _ :: _) _ at H
  refine wp_region_H H (by kernel_rfl) (by kernel_rfl) ?_
  repeat (first | go_big_quiet_skip | ((with_reducible apply wpQ_loadCH); (· exact cell_pcli); (· rfl); (· rfl); (· (repeat (first | (with_reducible exact List.mem_cons_self) | with_reducible apply List.mem_cons_of_mem))); (· (with_reducible first | exact one_g0 ..)); (simp only [Act.put, List.setIfInBounds_toArray, List.set_cons_zero, List.set_cons_succ])) | go_big_quiet_step (first | exact Ans.quietH hop))
  refine wpQuiet_nil ?_
  clear H
  intro _ H
  go_wp2_with (first
    | go_skip
    | ((with_reducible show wpList _ _ _ (_ :: _) _ _); (with_reducible apply wpl_loadRH row_rep); (· rfl); (· rfl); (· exact H); (· (repeat (first | (with_reducible exact List.mem_cons_self) | with_reducible apply List.mem_cons_of_mem))); (· (simp only [rep_sz, Nat.reduceAdd, Nat.reduceLeDiff, Nat.le_refl]; done)); (· with_reducible exact rep_all ..); (simp only [Act.put, List.setIfInBounds_toArray, List.set_cons_zero, List.set_cons_succ]))
    | ((with_reducible show wpList _ _ _ (_ :: _) _ _); (with_reducible apply wpl_storeRH row_rep); (· rfl); (· rfl); (· rfl); (· with_reducible exact rep_cells ..); (· exact H); (· (repeat (first | (with_reducible exact List.mem_cons_self) | with_reducible apply List.mem_cons_of_mem))); (· (simp only [rep_sz, Nat.reduceAdd, Nat.reduceLeDiff, Nat.le_refl]; done)); (· with_reducible exact rep_splice ..); (· (repeat (first | (with_reducible exact Repl.here) | with_reducible apply Repl.there))); (clear H; intro _ H); (simp only [Act.put, List.setIfInBounds_toArray, List.set_cons_zero, List.set_cons_succ])))
  exact ret_row3H row_rep rfl rfl rfl H List.mem_cons_self rfl rfl rfl ⟨rfl, H.tail.tail.tail⟩
theorem call_zero (x : Value) (m : Cel p clz 45 ∈ l) : AnsH W l 8 #[.pointer (some ⟨p, 0, none⟩), .agg #[x]] (.tuple #[.slice none 0 0, .int .i64 2]) := by
  intro w H
  go_enter Try.func8, Try.ntmps8
  go_wp2_with (first
    | go_skip
    | ((with_reducible show wpList _ _ _ (_ :: _) _ _); (with_reducible apply wpl_boxRH); (· rfl); (· rfl); (· exact H); (clear H; intro px _ H); (simp only [Act.put, List.setIfInBounds_toArray, List.set_cons_zero, List.set_cons_succ]))
    | ((with_reducible apply there_call H); (· with_reducible first | exact m | exact List.mem_cons_of_mem _ m); (· rfl); (clear H; intro _ H)))
  go_ret2
  exact ⟨rfl, H.tail⟩
theorem take_zero (kind frm lto term index mark commit : Int) (yes : Bool) (entries data : Value) (cid cnum : Int) (steps : Value) (err rerr rat : Int) (got : Value) (m : Cel p clz 45 ∈ l) : AnsH W l 9 #[.pointer (some ⟨p, 0, none⟩), .agg (letg kind frm lto term index mark commit yes entries data cid cnum steps err rerr rat got)] (.tuple #[.agg (rep 0 0 (.slice none 0 0)), .bool false, .slice none 0 0]) := by
  intro w H
  go_enter Try.func9, Try.ntmps9
  go_wp2_with (first
    | go_skip
    | ((with_reducible show wpList _ _ _ (_ :: _) _ _); (with_reducible apply wpl_boxRH); (· rfl); (· rfl); (· exact H); (clear H; intro px _ H); (simp only [Act.put, List.setIfInBounds_toArray, List.set_cons_zero, List.set_cons_succ]))
    | ((with_reducible show wpList _ _ _ (_ :: _) _ _); (with_reducible apply wpl_boxPH); (· rfl); (· rfl); (· exact H); (clear H; intro py _ H); (simp only [Act.put, List.setIfInBounds_toArray, List.set_cons_zero, List.set_cons_succ]))
    | ((with_reducible show wpList _ _ _ (_ :: _) _ _); (with_reducible apply wpl_allocRH row_rep); (· rfl); (· exact H); (clear H; intro pz _ H); (simp only [Act.put, List.setIfInBounds_toArray, List.set_cons_zero, List.set_cons_succ])))
  change Heap _ (_ :: _ :: Cel py (one _) _ :: _) _ at H
  refine wp_region_H H (by kernel_rfl) (by kernel_rfl) ?_
  repeat (first | go_big_quiet_skip | ((with_reducible apply wpQ_loadCH); (· exact cell_pcli); (· rfl); (· rfl); (· (repeat (first | (with_reducible exact List.mem_cons_self) | with_reducible apply List.mem_cons_of_mem))); (· (with_reducible first | exact one_g0 ..)); (simp only [Act.put, List.setIfInBounds_toArray, List.set_cons_zero, List.set_cons_succ])) | go_big_quiet_step (exact (open_zero (List.mem_cons_of_mem _ (List.mem_cons_of_mem _ (List.mem_cons_of_mem _ m)))).quiet))
  refine wpQuiet_nil ?_
  clear H
  intro _ H
  go_wp2_with (first
    | go_skip
    | ((with_reducible show wpList _ _ _ (_ :: _) _ _); (with_reducible apply wpl_loadRH row_rep); (· rfl); (· rfl); (· exact H); (· (repeat (first | (with_reducible exact List.mem_cons_self) | with_reducible apply List.mem_cons_of_mem))); (· (simp only [rep_sz, Nat.reduceAdd, Nat.reduceLeDiff, Nat.le_refl]; done)); (· with_reducible exact rep_all ..); (simp only [Act.put, List.setIfInBounds_toArray, List.set_cons_zero, List.set_cons_succ]))
    | ((with_reducible show wpList _ _ _ (_ :: _) _ _); (with_reducible apply wpl_storeRH row_rep); (· rfl); (· rfl); (· rfl); (· with_reducible exact rep_cells ..); (· exact H); (· (repeat (first | (with_reducible exact List.mem_cons_self) | with_reducible apply List.mem_cons_of_mem))); (· (simp only [rep_sz, Nat.reduceAdd, Nat.reduceLeDiff, Nat.le_refl]; done)); (· with_reducible exact rep_splice ..); (· (repeat (first | (with_reducible exact Repl.here) | with_reducible apply Repl.there))); (clear H; intro _ H); (simp only [Act.put, List.setIfInBounds_toArray, List.set_cons_zero, List.set_cons_succ])))
  exact ret_row3H row_rep rfl rfl rfl H List.mem_cons_self rfl rfl rfl ⟨rfl, H.tail.tail.tail⟩
end
end Go.Proofs.Ytjipelhcgglhhaa
