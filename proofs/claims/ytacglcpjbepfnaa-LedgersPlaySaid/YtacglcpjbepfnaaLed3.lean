/- ledgers.Ledger: Room. -/
import Derived.Test.YtacglcpjbepfnaaLed2
namespace Go.Proofs.Ytacglcpjbepfnaa
open Go.RowKit
set_option linter.unusedSimpArgs false
set_option linter.unusedVariables false
section
variable {W w : World} {l : List Thing} {p q : Nat} {m : Option Nat} {P : List Int} {S : Lgr} {R : Ending → World → Prop}
set_option maxRecDepth 100000
set_option maxHeartbeats 1000000
theorem lroom_H (f t c : Nat) (hf : f ≤ 255) (ht : t ≤ 255) (hc : c ≤ 255) (G : S.Good) (h : LdC p S.P (some q) ∈ l) (hm : LdM q S.L ∈ l) : AnsH W l 18 #[.pointer (some ⟨p, 0, none⟩), .int .u8 (f : Int), .int .u8 (t : Int), .int .u8 (c : Int)] (.int .i64 (roomOf S f t c)) := by
  intro w H
  have k1 := Lib.hid (key_nat f t c hf ht hc)
  have k2 := Lib.hid (key_nat t f c ht hf hc)
  have L1 := look_line G f t c
  have L2 := look_line G t f c
  have n1 := G.nums f t c
  have n2 := G.nums t f c
  have hr : roomOf S f t c = debOf S.L f t c + limOf S.L t f c - debOf S.L t f c := rfl
  rw [hr]
  clear hr
  generalize debOf S.L f t c = x at *
  generalize limOf S.L f t c = x' at *
  generalize debOf S.L t f c = y at *
  generalize limOf S.L t f c = y' at *
  have hs1 : wrap64 (x + y') = x + y' := IntWalk.wrap64_in _ ⟨by omega, by omega⟩
  have hs2 : wrap64 (x + y' - y) = x + y' - y := IntWalk.wrap64_in _ ⟨by omega, by omega⟩
  clear n1 n2
  replace L1 := Lib.hid L1
  replace L2 := Lib.hid L2
  go_enter Try.func18, Try.ntmps18
  go_wp2_with (first | go_skip | ((with_reducible apply lthere_call H); (· exact h); (clear H; intro _ H)))
  refine wp_region_M [18, 19, 20, 21] [(0, none), (1, none), (2, none), (3, none), (4, none), (5, none), (6, none), (7, none), (8, none), (9, none), (10, none), (11, none), (12, none), (13, none), (14, none), (15, none), (16, none), (17, none), (18, some 19), (20, none), (21, none)] (fun l0 => ∃ pre, l0 = pre ++ l) H ⟨[], rfl⟩ (by kernel_rfl) (by kernel_rfl) ?_
  iterate 18 (apply wpM_step; (· rfl); (· rfl); (· rfl); (· exact Nat.le_of_ble_eq_true rfl); (· rintro l0 ⟨pre, rfl⟩ w0 H0; (first | go_big_quiet_skip | (first | ((with_reducible apply wpQ_loadCH); (· exact cell_map); (· rfl); (· rfl); (· (refine List.mem_append_right _ ?_; exact h)); (· exact ledA_map _ _); (simp only [Act.put, List.setIfInBounds_toArray, List.set_cons_zero, List.set_cons_succ])) | ((with_reducible first | apply wpQ_look0 map_ty | apply wpQ_look1 map_ty); (· rfl); (· rfl); (· rfl); (· exact k1.out); (· (refine List.mem_append_right _ ?_; exact hm)); (· exact L1.out); (simp only [Act.put, List.setIfInBounds_toArray, List.set_cons_zero, List.set_cons_succ])) | ((with_reducible first | apply wpQ_look0 map_ty | apply wpQ_look1 map_ty); (· rfl); (· rfl); (· rfl); (· exact k2.out); (· (refine List.mem_append_right _ ?_; exact hm)); (· exact L2.out); (simp only [Act.put, List.setIfInBounds_toArray, List.set_cons_zero, List.set_cons_succ]))) | go_big_quiet_step (fail)); (refine wpQuiet_nil ?_); (simp only [Array.getD_eq_getD_getElem?, List.getElem?_toArray, List.getElem?_cons_succ, List.getElem?_cons_zero, Option.getD_some]; rfl)); (simp only [Act.put, List.setIfInBounds_toArray, List.set_cons_zero, List.set_cons_succ]))
  go_loud ((with_reducible apply wpM_alloc2 row_owe row_owe); (· rfl); (· rfl); (· rfl); (· rfl); (· decide); (· intro p; exact ⟨[_], rfl⟩); (· intro p; exact ⟨[_], rfl⟩); (· intro p q; exact ⟨[_, _], rfl⟩); (intro p1 p2); (simp only [Act.put, List.setIfInBounds_toArray, List.set_cons_zero, List.set_cons_succ]))
  go_loud ((with_reducible apply wpM_storeR row_owe); (· rfl); (· rfl); (· rfl); (· rfl); (· rfl); (· with_reducible exact owe_cells ..); (· (repeat (first | (with_reducible exact List.mem_cons_self) | with_reducible apply List.mem_cons_of_mem))); (· (simp only [owe_sz, Nat.reduceAdd, Nat.reduceLeDiff, Nat.le_refl]; done)); (· with_reducible exact owe_splice ..); (· (repeat (first | (with_reducible exact Repl.here) | with_reducible apply Repl.there))); (· exact ⟨[_, _], rfl⟩); (simp only [Act.put, List.setIfInBounds_toArray, List.set_cons_zero, List.set_cons_succ]))
  go_loud ((with_reducible apply wpM_storeR row_owe); (· rfl); (· rfl); (· rfl); (· rfl); (· rfl); (· with_reducible exact owe_cells ..); (· (repeat (first | (with_reducible exact List.mem_cons_self) | with_reducible apply List.mem_cons_of_mem))); (· (simp only [owe_sz, Nat.reduceAdd, Nat.reduceLeDiff, Nat.le_refl]; done)); (· with_reducible exact owe_splice ..); (· (repeat (first | (with_reducible exact Repl.here) | with_reducible apply Repl.there))); (· exact ⟨[_, _], rfl⟩); (simp only [Act.put, List.setIfInBounds_toArray, List.set_cons_zero, List.set_cons_succ]))
  (refine wpM_nil ?_; clear H; intro _ H)
  go_wp2_with (first | go_skip | ((with_reducible show wpList _ _ _ (_ :: _) _ _); (with_reducible apply wpl_loadCH); (· exact cell_i64); (· rfl); (· rfl); (· exact H); (· (repeat (first | (with_reducible exact List.mem_cons_self) | with_reducible apply List.mem_cons_of_mem))); (· (with_reducible first | exact owe_g0 .. | exact owe_g1 ..)); (simp only [Act.put, List.setIfInBounds_toArray, List.set_cons_zero, List.set_cons_succ])))
  go_ret
  exact ⟨congrArg (fun z => Ending.returned (.int .i64 z)) hs2, H.tail.tail⟩
end
end Go.Proofs.Ytacglcpjbepfnaa
