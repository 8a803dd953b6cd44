/- The walk of ClientsVoid: whatever the act, the law returns true. -/
import Derived.Test.YtjipelhcgglhhaaGreat27
import Derived.Test.YtjipelhcgglhhaaVoid27
import Derived.Test.YtjipelhcgglhhaaHeapRegion
import Derived.Test.YtjipelhcgglhhaaHeapMore
namespace Go.Proofs.Ytjipelhcgglhhaa
open Go.RowKit
set_option linter.unusedSimpArgs false
set_option linter.unusedVariables false
def pp (a : Value) (b : Value) : Array Value := #[a, b]
section
variable (a : Value) (b : Value)
theorem pp_sz : (pp a b).size = 2 := rfl
theorem pp_g0 : (pp a b)[0]? = some (a) := rfl
theorem pp_s0 (v : Value) : (pp a b).setIfInBounds 0 (v) = pp v b := rfl
theorem pp_g1 : (pp a b)[1]? = some (b) := rfl
theorem pp_s1 (v : Value) : (pp a b).setIfInBounds 1 (v) = pp a v := rfl
end
theorem pp_ones (pn : Nat) : ∀ v ∈ [Value.pointer none, .pointer (some ⟨pn, 0, none⟩)], v.cells = #[v] := by
  intro v hv
  simp at hv
  rcases hv with rfl | rfl <;> rfl
theorem AnsH.at {W w : World} {l : List Thing} {f : FuncId} {args : Array Value} {v : Value} (H : Heap W l w) (h : AnsH W l f args v) : AnsH W l f args v := h
theorem bs_pp : Try.prog.underlying 47 = some (.slice 46) ∧ (Try.prog.info? 46).map (fun i => (i.size, i.zero)) = some (1, some (.pointer none)) := ⟨Try.underlying47, by kernel_rfl⟩
theorem row_cli : RowTy 45 23 clz := ⟨⟨_, Try.underlying45, rfl⟩, by kernel_rfl, by kernel_rfl⟩
set_option maxRecDepth 100000
set_option maxHeartbeats 3000000
theorem clientsVoid_walk (kd : Int) (ca : Option Addr) (cn cc : Nat) (kind frm lto term index mark commit : Int) (yes : Bool) (ea : Option Addr) (en ec : Nat) (da : Option Addr) (dn dc : Nat) (cid cnum : Int) (sa : Option Addr) (sn sc : Nat) (err rerr rat : Int) (ga : Option Addr) (gn gc : Nat) (near : Bool) (w : World)
    (b0 : cn ≤ 9223372036854775807) (b1 : en ≤ 9223372036854775807) (b2 : dn ≤ 9223372036854775807) (b3 : sn ≤ 9223372036854775807) (b4 : gn ≤ 9223372036854775807) (he : EntriesOk w ea en) :
    Calls Try.prog 3 #[.agg (act kd (.slice ca cn cc) kind frm lto term index mark commit yes (.slice ea en ec) (.slice da dn dc) cid cnum (.slice sa sn sc) err rerr rat (.slice ga gn gc) near)] w fun e w' => e = .returned (.bool true) ∧ Below w.heap.size w w' := by
  have HE := Lib.hid he
  clear he
  have H := Heap.start w
  go_enter Try.func3, Try.ntmps3
  go_wp2_with (first
    | go_skip
    | ((with_reducible show wpList _ _ _ (_ :: _) _ _); (with_reducible apply wpl_boxRH); (· rfl); (· rfl); (· exact H); (clear H; intro pa _ H); (simp only [Act.put, List.setIfInBounds_toArray, List.set_cons_zero, List.set_cons_succ]))
    | ((with_reducible show wpList _ _ _ (_ :: _) _ _); (with_reducible apply wpl_loadRH row_act); (· rfl); (· rfl); (· exact H); (· (repeat (first | (with_reducible exact List.mem_cons_self) | with_reducible apply List.mem_cons_of_mem))); (· (simp only [act_sz, Nat.reduceAdd, Nat.reduceLeDiff, Nat.le_refl]; done)); (· with_reducible exact act_all ..); (simp only [Act.put, List.setIfInBounds_toArray, List.set_cons_zero, List.set_cons_succ]))
    | ((with_reducible show wpList _ _ _ (_ :: _) _ _); (with_reducible apply wpl_bsRH); (· rfl); (· rfl); (· exact bs_act); (· exact rfl); (· exact H); (clear H; intro pg _ H); (simp only [Act.put, List.setIfInBounds_toArray, List.set_cons_zero, List.set_cons_succ])))
  have C := great27_one pg kd ca cn cc kind frm lto term index mark commit yes ea en ec da dn dc cid cnum sa sn sc err rerr rat ga gn gc near b0 b1 b2 b3 b4 HE.out H
  clear H
  refine C.mono ?_
  clear C
  rintro e w1 ⟨b, rfl, H⟩
  clear b0 b1 b2 b3 b4
  cases b
  · go_wp2_with (first
      | go_skip
      | ((with_reducible show wpList _ _ _ (_ :: _) _ _); (with_reducible apply wpl_allocRH row_cli); (· rfl); (· exact H); (clear H; intro pn _ H); (simp only [Act.put, List.setIfInBounds_toArray, List.set_cons_zero, List.set_cons_succ]))
      | ((with_reducible show wpList _ _ _ (_ :: _) _ _); (with_reducible apply wpl_bsOnes _ [.pointer none, .pointer (some ⟨pn, 0, none⟩)]); (· rfl); (· rfl); (· rfl); (· decide); (· decide); (· exact pp_ones pn); (· exact bs_pp); (· rfl); (· exact H); (clear H; intro pl _ H); (change Heap _ (Cel pl (pp _ _) _ :: _) _ at H); (simp only [Act.put, List.setIfInBounds_toArray, List.set_cons_zero, List.set_cons_succ])))
    go_loopw [5] (fun i wr => ∃ k : Nat, k ≤ 2 ∧ i = .int .i64 k ∧ Heap w [Cel pl (pp (.pointer none) (.pointer (some ⟨pn, 0, none⟩))) 46, Cel pn clz 45, Cel pa (act kd (.slice ca cn cc) kind frm lto term index mark commit yes (.slice ea en ec) (.slice da dn dc) cid cnum (.slice sa sn sc) err rerr rat (.slice ga gn gc) near) 38] wr) (fun i _ => 2 - (intOf i).toNat)
    case atStart => exact ⟨0, by omega, rfl, H⟩
    case round =>
      obtain ⟨k, hk, rfl, H'⟩ := hrel
      clear H
      have H := H'
      clear H'
      obtain rfl | rfl | rfl : k = 0 ∨ k = 1 ∨ k = 2 := by omega
      · go_wp2_with fail
        have hc := AnsH.at H (call_nil (.slice ca cn cc) )
        refine wp_region_H H (by kernel_rfl) (by kernel_rfl) ?_
        repeat (first | go_big_quiet_skip | ((with_reducible apply wpQ_loadCH); (· first | exact cell_pcli); (· rfl); (· rfl); (· (repeat (first | (with_reducible exact List.mem_cons_self) | with_reducible apply List.mem_cons_of_mem))); (· (with_reducible first | exact pp_g0 .. | exact pp_g1 ..)); (simp only [Act.put, List.setIfInBounds_toArray, List.set_cons_zero, List.set_cons_succ])) | ((with_reducible apply wpQ_loadRH row_cmd); (· rfl); (· rfl); (· (repeat (first | (with_reducible exact List.mem_cons_self) | with_reducible apply List.mem_cons_of_mem))); (· (simp only [act_sz, Nat.reduceAdd, Nat.reduceLeDiff, Nat.le_refl]; done)); (· with_reducible exact act_cmd ..); (simp only [Act.put, List.setIfInBounds_toArray, List.set_cons_zero, List.set_cons_succ])) | go_big_quiet_step (exact hc.quiet))
        refine wpQuiet_nil ?_
        clear H
        intro _ H
        go_wp2_with fail
        refine wp_region_W [11, 12] (fun l0 => ∃ pre, l0 = pre ++ _) H ⟨[], rfl⟩ (by kernel_rfl) (by kernel_rfl) ?_
        iterate 11 (apply wpW_step; (· rfl); (· rfl); (· exact Nat.le_of_ble_eq_true rfl); (· rintro l0 ⟨pre, rfl⟩ w0 H0; (first | go_big_quiet_skip | ((with_reducible apply wpQ_loadCH); (· exact cell_pcli); (· rfl); (· rfl); (· ((refine List.mem_append_right _ ?_); (repeat (first | (with_reducible exact List.mem_cons_self) | with_reducible apply List.mem_cons_of_mem)))); (· (with_reducible first | exact pp_g0 .. | exact pp_g1 ..)); (simp only [Act.put, List.setIfInBounds_toArray, List.set_cons_zero, List.set_cons_succ])) | ((with_reducible apply wpQ_loadRH row_letg); (· rfl); (· rfl); (· ((refine List.mem_append_right _ ?_); (repeat (first | (with_reducible exact List.mem_cons_self) | with_reducible apply List.mem_cons_of_mem)))); (· (simp only [act_sz, Nat.reduceAdd, Nat.reduceLeDiff, Nat.le_refl]; done)); (· with_reducible exact act_letg ..); (simp only [Act.put, List.setIfInBounds_toArray, List.set_cons_zero, List.set_cons_succ])) | go_big_quiet_step (exact (take_nil kind frm lto term index mark commit yes (.slice ea en ec) (.slice da dn dc) cid cnum (.slice sa sn sc) err rerr rat (.slice ga gn gc) ).quiet)); (refine wpQuiet_nil ?_); (simp only [Array.getD_eq_getD_getElem?, List.getElem?_toArray, List.getElem?_cons_succ, List.getElem?_cons_zero, Option.getD_some]; rfl)); (simp only [Act.put, List.setIfInBounds_toArray, List.set_cons_zero, List.set_cons_succ]))
        ((with_reducible apply wpW_allocR row_rep); (· rfl); (· rfl); (· intro p; exact ⟨[_], rfl⟩); (intro pr); (simp only [Act.put, List.setIfInBounds_toArray, List.set_cons_zero, List.set_cons_succ]))
        ((with_reducible apply wpW_storeR row_rep); (· rfl); (· rfl); (· rfl); (· rfl); (· with_reducible exact rep_cells ..); (· (repeat (first | (with_reducible exact List.mem_cons_self) | with_reducible apply List.mem_cons_of_mem))); (· (simp only [rep_sz, Nat.reduceAdd, Nat.reduceLeDiff, Nat.le_refl]; done)); (· with_reducible exact rep_splice ..); (· (repeat (first | (with_reducible exact Repl.here) | with_reducible apply Repl.there))); (· exact ⟨[_], rfl⟩); (simp only [Act.put, List.setIfInBounds_toArray, List.set_cons_zero, List.set_cons_succ]))
        iterate 2 (apply wpW_step; (· rfl); (· rfl); (· exact Nat.le_of_ble_eq_true rfl); (· rintro l0 ⟨pre, rfl⟩ w0 H0; (first | go_big_quiet_skip | fail | go_big_quiet_step (fail)); (refine wpQuiet_nil ?_); (simp only [Array.getD_eq_getD_getElem?, List.getElem?_toArray, List.getElem?_cons_succ, List.getElem?_cons_zero, Option.getD_some]; rfl)); (simp only [Act.put, List.setIfInBounds_toArray, List.set_cons_zero, List.set_cons_succ]))
        (refine wpW_nil ?_; clear H; intro _ H)
        have h1 := tick_nil
        have h2 := open_nil
        have h3 := num_nil
        go_wp2_with (first
          | go_skip
          | ((with_reducible refine Ans.callH (by assumption) H ?_); clear H; intro _ H)
          | ((with_reducible show wpList _ _ _ (_ :: _) _ _); (with_reducible apply wpl_loadCH); (· exact cell_pcli); (· rfl); (· rfl); (· exact H); (· (repeat (first | (with_reducible exact List.mem_cons_self) | with_reducible apply List.mem_cons_of_mem))); (· (with_reducible first | exact pp_g0 .. | exact pp_g1 ..)); (simp only [Act.put, List.setIfInBounds_toArray, List.set_cons_zero, List.set_cons_succ]))
          | ((with_reducible show wpList _ _ _ (_ :: _) _ _); (with_reducible apply wpl_storeRH row_rep); (· rfl); (· rfl); (· rfl); (· with_reducible exact rep_cells ..); (· exact H); (· (repeat (first | (with_reducible exact List.mem_cons_self) | with_reducible apply List.mem_cons_of_mem))); (· (simp only [rep_sz, Nat.reduceAdd, Nat.reduceLeDiff, Nat.le_refl]; done)); (· with_reducible exact rep_splice ..); (· (repeat (first | (with_reducible exact Repl.here) | with_reducible apply Repl.there))); (clear H; intro _ H); (simp only [Act.put, List.setIfInBounds_toArray, List.set_cons_zero, List.set_cons_succ])))
        go_roundw
        case rel => exact ⟨1, by omega, rfl, H.tail⟩
        case measure => simp [intOf]
      · go_wp2_with fail
        have hc := AnsH.at H (call_zero (.slice ca cn cc) (List.mem_cons_of_mem _ List.mem_cons_self))
        refine wp_region_H H (by kernel_rfl) (by kernel_rfl) ?_
        repeat (first | go_big_quiet_skip | ((with_reducible apply wpQ_loadCH); (· first | exact cell_pcli); (· rfl); (· rfl); (· (repeat (first | (with_reducible exact List.mem_cons_self) | with_reducible apply List.mem_cons_of_mem))); (· (with_reducible first | exact pp_g0 .. | exact pp_g1 ..)); (simp only [Act.put, List.setIfInBounds_toArray, List.set_cons_zero, List.set_cons_succ])) | ((with_reducible apply wpQ_loadRH row_cmd); (· rfl); (· rfl); (· (repeat (first | (with_reducible exact List.mem_cons_self) | with_reducible apply List.mem_cons_of_mem))); (· (simp only [act_sz, Nat.reduceAdd, Nat.reduceLeDiff, Nat.le_refl]; done)); (· with_reducible exact act_cmd ..); (simp only [Act.put, List.setIfInBounds_toArray, List.set_cons_zero, List.set_cons_succ])) | go_big_quiet_step (exact hc.quiet))
        refine wpQuiet_nil ?_
        clear H
        intro _ H
        go_wp2_with fail
        refine wp_region_W [11, 12] (fun l0 => ∃ pre, l0 = pre ++ _) H ⟨[], rfl⟩ (by kernel_rfl) (by kernel_rfl) ?_
        iterate 11 (apply wpW_step; (· rfl); (· rfl); (· exact Nat.le_of_ble_eq_true rfl); (· rintro l0 ⟨pre, rfl⟩ w0 H0; (first | go_big_quiet_skip | ((with_reducible apply wpQ_loadCH); (· exact cell_pcli); (· rfl); (· rfl); (· ((refine List.mem_append_right _ ?_); (repeat (first | (with_reducible exact List.mem_cons_self) | with_reducible apply List.mem_cons_of_mem)))); (· (with_reducible first | exact pp_g0 .. | exact pp_g1 ..)); (simp only [Act.put, List.setIfInBounds_toArray, List.set_cons_zero, List.set_cons_succ])) | ((with_reducible apply wpQ_loadRH row_letg); (· rfl); (· rfl); (· ((refine List.mem_append_right _ ?_); (repeat (first | (with_reducible exact List.mem_cons_self) | with_reducible apply List.mem_cons_of_mem)))); (· (simp only [act_sz, Nat.reduceAdd, Nat.reduceLeDiff, Nat.le_refl]; done)); (· with_reducible exact act_letg ..); (simp only [Act.put, List.setIfInBounds_toArray, List.set_cons_zero, List.set_cons_succ])) | go_big_quiet_step (exact (take_zero kind frm lto term index mark commit yes (.slice ea en ec) (.slice da dn dc) cid cnum (.slice sa sn sc) err rerr rat (.slice ga gn gc) (List.mem_append_right _ (List.mem_cons_of_mem _ List.mem_cons_self))).quiet)); (refine wpQuiet_nil ?_); (simp only [Array.getD_eq_getD_getElem?, List.getElem?_toArray, List.getElem?_cons_succ, List.getElem?_cons_zero, Option.getD_some]; rfl)); (simp only [Act.put, List.setIfInBounds_toArray, List.set_cons_zero, List.set_cons_succ]))
        ((with_reducible apply wpW_allocR row_rep); (· rfl); (· rfl); (· intro p; exact ⟨[_], rfl⟩); (intro pr); (simp only [Act.put, List.setIfInBounds_toArray, List.set_cons_zero, List.set_cons_succ]))
        ((with_reducible apply wpW_storeR row_rep); (· rfl); (· rfl); (· rfl); (· rfl); (· with_reducible exact rep_cells ..); (· (repeat (first | (with_reducible exact List.mem_cons_self) | with_reducible apply List.mem_cons_of_mem))); (· (simp only [rep_sz, Nat.reduceAdd, Nat.reduceLeDiff, Nat.le_refl]; done)); (· with_reducible exact rep_splice ..); (· (repeat (first | (with_reducible exact Repl.here) | with_reducible apply Repl.there))); (· exact ⟨[_], rfl⟩); (simp only [Act.put, List.setIfInBounds_toArray, List.set_cons_zero, List.set_cons_succ]))
        iterate 2 (apply wpW_step; (· rfl); (· rfl); (· exact Nat.le_of_ble_eq_true rfl); (· rintro l0 ⟨pre, rfl⟩ w0 H0; (first | go_big_quiet_skip | fail | go_big_quiet_step (fail)); (refine wpQuiet_nil ?_); (simp only [Array.getD_eq_getD_getElem?, List.getElem?_toArray, List.getElem?_cons_succ, List.getElem?_cons_zero, Option.getD_some]; rfl)); (simp only [Act.put, List.setIfInBounds_toArray, List.set_cons_zero, List.set_cons_succ]))
        (refine wpW_nil ?_; clear H; intro _ H)
        have h1 := AnsH.at H (tick_zero (List.mem_cons_of_mem _ (List.mem_cons_of_mem _ List.mem_cons_self)))
        have h2 := AnsH.at H (open_zero (List.mem_cons_of_mem _ (List.mem_cons_of_mem _ List.mem_cons_self)))
        have h3 := AnsH.at H (num_zero (List.mem_cons_of_mem _ (List.mem_cons_of_mem _ List.mem_cons_self)))
        go_wp2_with (first
          | go_skip
          | ((with_reducible refine AnsH.call (by assumption) H ?_); clear H; intro _ H)
          | ((with_reducible show wpList _ _ _ (_ :: _) _ _); (with_reducible apply wpl_loadCH); (· exact cell_pcli); (· rfl); (· rfl); (· exact H); (· (repeat (first | (with_reducible exact List.mem_cons_self) | with_reducible apply List.mem_cons_of_mem))); (· (with_reducible first | exact pp_g0 .. | exact pp_g1 ..)); (simp only [Act.put, List.setIfInBounds_toArray, List.set_cons_zero, List.set_cons_succ]))
          | ((with_reducible show wpList _ _ _ (_ :: _) _ _); (with_reducible apply wpl_storeRH row_rep); (· rfl); (· rfl); (· rfl); (· with_reducible exact rep_cells ..); (· exact H); (· (repeat (first | (with_reducible exact List.mem_cons_self) | with_reducible apply List.mem_cons_of_mem))); (· (simp only [rep_sz, Nat.reduceAdd, Nat.reduceLeDiff, Nat.le_refl]; done)); (· with_reducible exact rep_splice ..); (· (repeat (first | (with_reducible exact Repl.here) | with_reducible apply Repl.there))); (clear H; intro _ H); (simp only [Act.put, List.setIfInBounds_toArray, List.set_cons_zero, List.set_cons_succ])))
        go_roundw
        case rel => exact ⟨2, by omega, rfl, H.tail⟩
        case measure => simp [intOf]
      · go_wp2_with fail
        have C := lives27_H H
        clear H
        refine C.mono ?_
        clear C
        rintro e w2 ⟨rfl, H⟩
        go_wp2_with fail
        go_ret
        exact ⟨rfl, H.low⟩
  · go_wp2_with fail
    have C := lives27_H H
    clear H
    refine C.mono ?_
    clear C
    rintro e w2 ⟨rfl, H⟩
    go_wp2_with fail
    go_ret
    exact ⟨rfl, H.low⟩
end Go.Proofs.Ytjipelhcgglhhaa
