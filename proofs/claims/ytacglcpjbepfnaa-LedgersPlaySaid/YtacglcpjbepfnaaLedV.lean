/- ledgers.Ledger: of no ledger, and of one that no call made. -/
import Derived.Test.YtacglcpjbepfnaaLed11
namespace Go.Proofs.Ytacglcpjbepfnaa
open Go.RowKit
set_option linter.unusedSimpArgs false
set_option linter.unusedVariables false
/-- There is no ledger there, whatever else lies there. -/
def VoidL (W : World) (l : List Thing) (v : Value) : Prop := ∀ l', (∀ t ∈ l, t ∈ l') → AnsH W l' 77 #[v] (.bool false)
theorem VoidL.now {W : World} {l : List Thing} {v : Value} (h : VoidL W l v) : AnsH W l 77 #[v] (.bool false) := h l fun _ h => h
theorem VoidL.nil (W : World) (l : List Thing) : VoidL W l (.pointer none) := fun _ _ => lthere_nil.toH
theorem VoidL.zero {W : World} {l : List Thing} {p : Nat} {P : List Int} (h : LdC p P none ∈ l) : VoidL W l (.pointer (some ⟨p, 0, none⟩)) := fun _ hl => lthere_H (m := none) (hl _ h)
section
variable {w W : World} {l : List Thing} {v : Value}
set_option maxRecDepth 100000
set_option maxHeartbeats 1000000
theorem lopen_V (a : Nat) (hT : VoidL W l v) : AnsH W l 46 #[v, .int .u8 (a : Int)] (.int .i64 2) := by
  intro w H
  have hT0 := hT.now
  go_enter Try.func46, Try.ntmps46
  go_wp2_with (first | go_skip | ((with_reducible refine AnsH.call (by assumption) H ?_); clear H; intro _ H))
  go_ret
  exact ⟨rfl, H⟩
theorem ltrust_V (f t c : Nat) (n : Int) (hT : VoidL W l v) : AnsH W l 47 #[v, .int .u8 (f : Int), .int .u8 (t : Int), .int .u8 (c : Int), .int .i64 n] (.int .i64 2) := by
  intro w H
  have hT0 := hT.now
  go_enter Try.func47, Try.ntmps47
  go_wp2_with (first | go_skip | ((with_reducible show wpList _ _ _ (_ :: _) _ _); (with_reducible apply wpl_allocRH row_ends); (· rfl); (· exact H); (clear H; intro pe _ H); (simp only [Act.put, List.setIfInBounds_toArray, List.set_cons_zero, List.set_cons_succ])) | ((with_reducible show wpList _ _ _ (_ :: _) _ _); (with_reducible apply wpl_storeRH row_ends); (· rfl); (· rfl); (· rfl); (· with_reducible exact ends_cells ..); (· exact H); (· (repeat (first | (with_reducible exact List.mem_cons_self) | with_reducible apply List.mem_cons_of_mem))); (· (simp only [ends_sz, Nat.reduceAdd, Nat.reduceLeDiff, Nat.le_refl]; done)); (· with_reducible exact ends_splice ..); (· (repeat (first | (with_reducible exact Repl.here) | with_reducible apply Repl.there))); (clear H; intro _ H); (simp only [Act.put, List.setIfInBounds_toArray, List.set_cons_zero, List.set_cons_succ])))
  refine (hT (Cel pe (ends (f : Int) (t : Int) (c : Int)) 118 :: l) (fun t ht => List.mem_cons_of_mem _ ht) _ H).mono ?_
  clear H
  rintro _ w1 ⟨rfl, H⟩
  go_wp2_with (go_skip)
  go_ret
  exact ⟨rfl, H.tail⟩
theorem lpush_V (f t c : Nat) (n : Int) (hT : VoidL W l v) : AnsH W l 19 #[v, .int .u8 (f : Int), .int .u8 (t : Int), .int .u8 (c : Int), .int .i64 n] (.int .i64 2) := by
  intro w H
  have hT0 := hT.now
  go_enter Try.func19, Try.ntmps19
  go_wp2_with (first | go_skip | ((with_reducible refine AnsH.call (by assumption) H ?_); clear H; intro _ H))
  go_ret
  exact ⟨rfl, H⟩
theorem lhas_V (a : Nat) (hT : VoidL W l v) : AnsH W l 40 #[v, .int .u8 (a : Int)] (.bool false) := by
  intro w H
  have hT0 := hT.now
  go_enter Try.func40, Try.ntmps40
  go_wp2_with (first | go_skip | ((with_reducible refine AnsH.call (by assumption) H ?_); clear H; intro _ H))
  go_ret
  exact ⟨rfl, H⟩
theorem lroom_V (f t c : Nat) (hT : VoidL W l v) : AnsH W l 18 #[v, .int .u8 (f : Int), .int .u8 (t : Int), .int .u8 (c : Int)] (.int .i64 0) := by
  intro w H
  have hT0 := hT.now
  go_enter Try.func18, Try.ntmps18
  go_wp2_with (first | go_skip | ((with_reducible refine AnsH.call (by assumption) H ?_); clear H; intro _ H))
  go_ret
  exact ⟨rfl, H⟩
theorem lparties_V  (hT : VoidL W l v) : AnsH W l 43 #[v] (.slice none 0 0) := by
  intro w H
  have hT0 := hT.now
  go_enter Try.func43, Try.ntmps43
  go_wp2_with (first | go_skip | ((with_reducible refine AnsH.call (by assumption) H ?_); clear H; intro _ H))
  go_ret
  exact ⟨rfl, H⟩
theorem llines_V  (hT : VoidL W l v) : AnsH W l 21 #[v] (.slice none 0 0) := by
  intro w H
  have hT0 := hT.now
  go_enter Try.func21, Try.ntmps21
  go_wp2_with (first | go_skip | ((with_reducible refine AnsH.call (by assumption) H ?_); clear H; intro _ H))
  go_ret
  exact ⟨rfl, H⟩
theorem lcopy_V  (hT : VoidL W l v) : AnsH W l 17 #[v] (.pointer none) := by
  intro w H
  have hT0 := hT.now
  go_enter Try.func17, Try.ntmps17
  go_wp2_with (first | go_skip | ((with_reducible refine AnsH.call (by assumption) H ?_); clear H; intro _ H))
  go_ret
  exact ⟨rfl, H⟩
theorem lline_V (f t c : Nat) (hT : VoidL W l v) : AnsH W l 23 #[v, .int .u8 (f : Int), .int .u8 (t : Int), .int .u8 (c : Int)] (.tuple #[.agg (line 0 0 0 0 0), .bool false]) := by
  intro w H
  have hT0 := hT.now
  go_enter Try.func23, Try.ntmps23
  go_wp2_with (first | go_skip | ((with_reducible show wpList _ _ _ (_ :: _) _ _); (with_reducible apply wpl_allocRH row_line); (· rfl); (· exact H); (clear H; intro pe _ H); (simp only [Act.put, List.setIfInBounds_toArray, List.set_cons_zero, List.set_cons_succ])))
  refine (hT (Cel pe (line 0 0 0 0 0) 39 :: l) (fun t ht => List.mem_cons_of_mem _ ht) _ H).mono ?_
  clear H
  rintro _ w1 ⟨rfl, H⟩
  go_wp2_with (first | go_skip | ((with_reducible show wpList _ _ _ (_ :: _) _ _); (with_reducible apply wpl_storeRH row_line); (· rfl); (· rfl); (· rfl); (· with_reducible exact line_cells ..); (· exact H); (· (repeat (first | (with_reducible exact List.mem_cons_self) | with_reducible apply List.mem_cons_of_mem))); (· (simp only [line_sz, Nat.reduceAdd, Nat.reduceLeDiff, Nat.le_refl]; done)); (· with_reducible exact line_splice ..); (· (repeat (first | (with_reducible exact Repl.here) | with_reducible apply Repl.there))); (clear H; intro _ H); (simp only [Act.put, List.setIfInBounds_toArray, List.set_cons_zero, List.set_cons_succ])))
  exact ret_row2H row_line rfl rfl rfl H (by (repeat (first | (with_reducible exact List.mem_cons_self) | with_reducible apply List.mem_cons_of_mem))) rfl rfl ⟨rfl, H.tail⟩
theorem lforg_V (f t c : Nat) (n : Int) (hT : VoidL W l v) : AnsH W l 48 #[v, .int .u8 (f : Int), .int .u8 (t : Int), .int .u8 (c : Int), .int .i64 n] (.int .i64 2) := by
  intro w H
  have hT0 := hT.now
  have hL := lline_V f t c hT
  go_enter Try.func48, Try.ntmps48
  go_wp2_with (first | go_skip | ((with_reducible refine AnsH.call (by assumption) H ?_); clear H; intro _ H) | ((with_reducible show wpList _ _ _ (_ :: _) _ _); (with_reducible apply wpl_allocRH row_line); (· rfl); (· exact H); (clear H; intro pe _ H); (simp only [Act.put, List.setIfInBounds_toArray, List.set_cons_zero, List.set_cons_succ])) | ((with_reducible show wpList _ _ _ (_ :: _) _ _); (with_reducible apply wpl_storeRH row_line); (· rfl); (· rfl); (· rfl); (· with_reducible exact line_cells ..); (· exact H); (· (repeat (first | (with_reducible exact List.mem_cons_self) | with_reducible apply List.mem_cons_of_mem))); (· (simp only [line_sz, Nat.reduceAdd, Nat.reduceLeDiff, Nat.le_refl]; done)); (· with_reducible exact line_splice ..); (· (repeat (first | (with_reducible exact Repl.here) | with_reducible apply Repl.there))); (clear H; intro _ H); (simp only [Act.put, List.setIfInBounds_toArray, List.set_cons_zero, List.set_cons_succ])))
  refine (hT (Cel pe (line 0 0 0 0 0) 39 :: l) (fun t ht => List.mem_cons_of_mem _ ht) _ H).mono ?_
  clear H
  rintro _ w1 ⟨rfl, H⟩
  go_wp2_with (go_skip)
  go_ret
  exact ⟨rfl, H.tail⟩
theorem lpos_V (a c : Nat) (hT : VoidL W l v) : AnsH W l 22 #[v, .int .u8 (a : Int), .int .u8 (c : Int)] (.int .i64 0) := by
  intro w H
  have hT0 := hT.now
  have hL := llines_V hT
  go_enter Try.func22, Try.ntmps22
  go_wp2_with (first | go_skip | ((with_reducible refine AnsH.call (by assumption) H ?_); clear H; intro _ H))
  refine wp_loop_once ?_
  go_wp2_with (go_skip)
  go_ret
  exact ⟨rfl, H⟩
theorem ltot_V (c : Nat) (hT : VoidL W l v) : AnsH W l 38 #[v, .int .u8 (c : Int)] (.int .i64 0) := by
  intro w H
  have hT0 := hT.now
  have hL := llines_V hT
  go_enter Try.func38, Try.ntmps38
  go_wp2_with (first | go_skip | ((with_reducible refine AnsH.call (by assumption) H ?_); clear H; intro _ H))
  refine wp_loop_once ?_
  go_wp2_with (go_skip)
  go_ret
  exact ⟨rfl, H⟩
end
end Go.Proofs.Ytacglcpjbepfnaa
