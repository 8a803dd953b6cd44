/- books: Place. -/
import Derived.Test.YtacglcpjbepfnaaBok4
namespace Go.Proofs.Ytacglcpjbepfnaa
open Go.RowKit
set_option linter.unusedSimpArgs false
set_option linter.unusedVariables false
set_option maxRecDepth 100000
theorem ofrL_app (L M : List Ofr) : ofrL (L ++ M) = ofrL L ++ ofrL M := by simp [ofrL]
theorem ofrL_one (o : Ofr) : ofrL [o] = (ofrA o).toList := by simp [ofrL, ofrA]
theorem ofrA_ones (o : Ofr) : OneCells (ofrA o).toList := by rw [← ofrL_one]; exact ofrL_ones _
abbrev ratA (nu de : Int) : Array Value := #[.int .i64 nu, .int .i64 de]
theorem ratA_sz (nu de : Int) : (ratA nu de).size = 2 := rfl
theorem ratA_all (nu de : Int) : (ratA nu de).extract 0 (0 + 2) = ratA nu de := by simp [ratA]
theorem bs_ofr : Try.prog.underlying 76 = some (.slice 83) ∧ (Try.prog.info? 83).map (fun i => (i.size, i.zero.map Value.cells)) = some ((ofrA ofrZ).size, some (ofrA ofrZ)) ∧ 0 < (ofrA ofrZ).size ∧ (ofrA ofrZ).size ≤ 65536 := ⟨Try.underlying76, by kernel_rfl, by decide, by decide⟩
theorem place_bad {B : Bok} {ow se bu le nu de : Int} (h : mayO ⟨B.nx, ow, se, bu, le, nu, de⟩ = false) : placeE B ow se bu le nu de = 1 := by unfold placeE placeO; rw [if_pos h]
theorem place_full {B : Bok} {ow se bu le nu de : Int} (h : mayO ⟨B.nx, ow, se, bu, le, nu, de⟩ = true) (h2 : 32 ≤ B.L.length ∨ B.nx = 18446744073709551615) : placeE B ow se bu le nu de = 9 := by
  unfold placeE placeO; rw [if_neg (by rw [h]; decide), if_pos h2]
theorem place_fine {B : Bok} {ow se bu le nu de : Int} (h : mayO ⟨B.nx, ow, se, bu, le, nu, de⟩ = true) (h2 : ¬ (32 ≤ B.L.length ∨ B.nx = 18446744073709551615)) : placeE B ow se bu le nu de = 0 := by
  unfold placeE placeO; rw [if_neg (by rw [h]; decide), if_neg h2]
theorem placeN_no {B : Bok} {ow se bu le nu de : Int} (h : placeE B ow se bu le nu de ≠ 0) : placeN B ow se bu le nu de = 0 := by unfold placeN; rw [if_neg h]
theorem placeN_yes {B : Bok} {ow se bu le nu de : Int} (h : placeE B ow se bu le nu de = 0) : placeN B ow se bu le nu de = B.nx := by unfold placeN; rw [if_pos h]
theorem placeS_no {B : Bok} {ow se bu le nu de : Int} (h : placeE B ow se bu le nu de ≠ 0) : placeS B ow se bu le nu de = B := by unfold placeS; rw [if_neg h]
theorem placeS_yes {B : Bok} {ow se bu le nu de : Int} (h : placeE B ow se bu le nu de = 0) : placeS B ow se bu le nu de = ⟨B.L ++ [⟨B.nx, ow, se, bu, le, nu, de⟩], B.nx + 1⟩ := by unfold placeS placeO; rw [if_pos h]
section
variable {W w : World} {l : List Thing}
set_option maxHeartbeats 8000000
theorem place_nil (ow se bu le nu de : Int) : Ans 58 #[.pointer none, .int .u8 ow, .int .u8 se, .int .u8 bu, .int .i64 le, .agg (ratA nu de)] (.tuple #[.int .u64 0, .int .i64 2]) := by
  intro w
  have T := bthere_nil
  have H := Heap.start w
  go_enter Try.func58, Try.ntmps58
  go_wp2_with (first
    | ((with_reducible show wpList _ _ _ (_ :: _) _ _); (with_reducible apply wpl_boxRH); (· rfl); (· rfl); (· exact H); (clear H; intro px _ H); (simp only [Act.put, List.setIfInBounds_toArray, List.set_cons_zero, List.set_cons_succ]))
    | go_skip
    | ((with_reducible refine Ans.callH (by assumption) H ?_); clear H; intro _ H))
  go_ret2
  exact ⟨rfl, H.tail.low⟩
theorem place_zero {p : Nat} {v : Value} (ow se bu le nu de : Int) (m : BkB p v 0 ∈ l) : AnsH W l 58 #[.pointer (some ⟨p, 0, none⟩), .int .u8 ow, .int .u8 se, .int .u8 bu, .int .i64 le, .agg (ratA nu de)] (.tuple #[.int .u64 0, .int .i64 2]) := by
  intro w H
  have T := fun px c t => bthere_zero (W := W) (l := Cel px c t :: l) (List.mem_cons_of_mem _ m)
  go_enter Try.func58, Try.ntmps58
  go_wp2_with (first
    | ((with_reducible show wpList _ _ _ (_ :: _) _ _); (with_reducible apply wpl_boxRH); (· rfl); (· rfl); (· exact H); (clear H; intro px _ H); (simp only [Act.put, List.setIfInBounds_toArray, List.set_cons_zero, List.set_cons_succ]))
    | go_skip
    | ((with_reducible refine AnsH.call (T _ _ _) H ?_); clear H; intro _ H))
  go_ret2
  exact ⟨rfl, H.tail⟩
theorem place_H {p : Nat} {v : Value} {B : Bok} (ow se bu le nu de : Int) (hk : OfrOk ⟨B.nx, ow, se, bu, le, nu, de⟩) (G : B.Good) (H : Heap W (BkB p v B.nx :: OfT v B.L.length B.L :: l) w) :
    Calls Try.prog 58 #[.pointer (some ⟨p, 0, none⟩), .int .u8 ow, .int .u8 se, .int .u8 bu, .int .i64 le, .agg (ratA nu de)] w fun e w' =>
      ∃ v', e = .returned (.tuple #[.int .u64 (placeN B ow se bu le nu de), .int .i64 (placeE B ow se bu le nu de)]) ∧ Heap W (BkB p v' (placeS B ow se bu le nu de).nx :: OfT v' (placeS B ow se bu le nu de).L.length (placeS B ow se bu le nu de).L :: l) w' := by
  obtain ⟨va, c, rfl, hc1, hc2⟩ := RowT.form0 (H.ok _ (List.mem_cons_of_mem _ List.mem_cons_self))
  have hfew := G.few
  have hnx1 := G.nx.1
  have hnx2 := G.nx.2
  have T := fun px c2 t => bthere_yes (W := W) (l := Cel px c2 t :: BkB p (.slice va B.L.length c) B.nx :: OfT (.slice va B.L.length c) B.L.length B.L :: l) (List.mem_cons_of_mem _ List.mem_cons_self) (show 0 < B.nx by omega)
  have M := fun l' => bmay_H (W := W) (l := l') ⟨B.nx, ow, se, bu, le, nu, de⟩ hk
  cases hb : mayO ⟨B.nx, ow, se, bu, le, nu, de⟩ with
  | false =>
    rw [hb] at M
    have e1 := place_bad hb
    have e2 := placeN_no (by rw [e1]; decide : placeE B ow se bu le nu de ≠ 0)
    have e3 := placeS_no (by rw [e1]; decide : placeE B ow se bu le nu de ≠ 0)
    rw [e1, e2, e3]
    clear e1 e2 e3 hb hfew
    generalize B.L.length = n at *
    go_enter Try.func58, Try.ntmps58
    go_wp2_with (first
      | ((with_reducible show wpList _ _ _ (_ :: _) _ _); (with_reducible apply wpl_boxRH); (· rfl); (· rfl); (· exact H); (clear H; intro px _ H); (simp only [Act.put, List.setIfInBounds_toArray, List.set_cons_zero, List.set_cons_succ]))
      | go_skip
      | ((with_reducible refine AnsH.call (T _ _ _) H ?_); clear H; intro _ H))
    refine wp_region_W [10, 11] (fun l0 => ∃ pre, l0 = pre ++ _) H ⟨[], rfl⟩ (by kernel_rfl) (by kernel_rfl) ?_
    iterate 10 (apply wpW_step; (· rfl); (· rfl); (· exact Nat.le_of_ble_eq_true rfl); (· rintro l0 ⟨pre, rfl⟩ w0 H0; (first | go_big_quiet_skip | ((with_reducible apply wpQ_loadCH); (· exact cell_u64); (· rfl); (· rfl); (· ((refine List.mem_append_right _ ?_); (repeat (first | (with_reducible exact List.mem_cons_self) | with_reducible apply List.mem_cons_of_mem)))); (· exact bkb_g1 ..); (simp only [Act.put, List.setIfInBounds_toArray, List.set_cons_zero, List.set_cons_succ])) | ((with_reducible apply wpQ_loadRH row_rat); (· rfl); (· rfl); (· ((refine List.mem_append_right _ ?_); (repeat (first | (with_reducible exact List.mem_cons_self) | with_reducible apply List.mem_cons_of_mem)))); (· (simp only [ratA_sz, Nat.reduceAdd, Nat.reduceLeDiff, Nat.le_refl]; done)); (· with_reducible exact ratA_all ..); (simp only [Act.put, List.setIfInBounds_toArray, List.set_cons_zero, List.set_cons_succ])) | ((with_reducible apply wpQ_buildO); (· rfl); (· rfl); (· rfl); (· rfl); (· rfl); (· rfl); (· rfl); (simp only [Act.put, List.setIfInBounds_toArray, List.set_cons_zero, List.set_cons_succ])) | go_big_quiet_step (fail)); (refine wpQuiet_nil ?_); (simp only [Array.getD_eq_getD_getElem?, List.getElem?_toArray, List.getElem?_cons_succ, List.getElem?_cons_zero, Option.getD_some]; rfl)); (simp only [Act.put, List.setIfInBounds_toArray, List.set_cons_zero, List.set_cons_succ]))
    ((with_reducible apply wpW_allocR row_ofr); (· rfl); (· rfl); (· intro p; exact ⟨[_], rfl⟩); (intro po); (simp only [Act.put, List.setIfInBounds_toArray, List.set_cons_zero, List.set_cons_succ]))
    ((with_reducible apply wpW_storeR row_ofr); (· rfl); (· rfl); (· rfl); (· rfl); (· with_reducible exact ofr_cells ..); (· (repeat (first | (with_reducible exact List.mem_cons_self) | with_reducible apply List.mem_cons_of_mem))); (· (simp only [ofrA_sz, Nat.reduceAdd, Nat.reduceLeDiff, Nat.le_refl]; done)); (· with_reducible exact ofr_splice ..); (· (repeat (first | (with_reducible exact Repl.here) | with_reducible apply Repl.there))); (· exact ⟨[_], rfl⟩); (simp only [Act.put, List.setIfInBounds_toArray, List.set_cons_zero, List.set_cons_succ]))
    (refine wpW_nil ?_; clear H; intro _ H)
    go_wp2_with (first
      | go_skip
      | ((with_reducible show wpList _ _ _ (_ :: _) _ _); (with_reducible apply wpl_loadRH row_ofr); (· rfl); (· rfl); (· exact H); (· (repeat (first | (with_reducible exact List.mem_cons_self) | with_reducible apply List.mem_cons_of_mem))); (· (simp only [ofrA_sz, Nat.reduceAdd, Nat.reduceLeDiff, Nat.le_refl]; done)); (· with_reducible exact ofrA_all ..); (simp only [Act.put, List.setIfInBounds_toArray, List.set_cons_zero, List.set_cons_succ]))
      | ((with_reducible refine AnsH.call (M _) H ?_); clear H; intro _ H))
    go_ret2
    exact ⟨_, rfl, H.tail.tail⟩
  | true =>
    rw [hb] at M
    by_cases hf : 32 ≤ B.L.length ∨ B.nx = 18446744073709551615
    · have e1 := place_full hb hf
      have e2 := placeN_no (by rw [e1]; decide : placeE B ow se bu le nu de ≠ 0)
      have e3 := placeS_no (by rw [e1]; decide : placeE B ow se bu le nu de ≠ 0)
      rw [e1, e2, e3]
      clear e1 e2 e3 hb hfew
      by_cases h1 : 32 ≤ B.L.length
      · have d1 : decide ((B.L.length : Int) ≥ 32) = true := decide_eq_true (by omega)
        have d2 : decide (32 ≤ (B.L.length : Int)) = true := decide_eq_true (by omega)
        clear hf h1
        generalize B.L.length = n at *
        go_enter Try.func58, Try.ntmps58
        go_wp2_with (first
          | ((with_reducible show wpList _ _ _ (_ :: _) _ _); (with_reducible apply wpl_boxRH); (· rfl); (· rfl); (· exact H); (clear H; intro px _ H); (simp only [Act.put, List.setIfInBounds_toArray, List.set_cons_zero, List.set_cons_succ]))
          | go_skip
          | ((with_reducible refine AnsH.call (T _ _ _) H ?_); clear H; intro _ H))
        refine wp_region_W [10, 11] (fun l0 => ∃ pre, l0 = pre ++ _) H ⟨[], rfl⟩ (by kernel_rfl) (by kernel_rfl) ?_
        iterate 10 (apply wpW_step; (· rfl); (· rfl); (· exact Nat.le_of_ble_eq_true rfl); (· rintro l0 ⟨pre, rfl⟩ w0 H0; (first | go_big_quiet_skip | ((with_reducible apply wpQ_loadCH); (· exact cell_u64); (· rfl); (· rfl); (· ((refine List.mem_append_right _ ?_); (repeat (first | (with_reducible exact List.mem_cons_self) | with_reducible apply List.mem_cons_of_mem)))); (· exact bkb_g1 ..); (simp only [Act.put, List.setIfInBounds_toArray, List.set_cons_zero, List.set_cons_succ])) | ((with_reducible apply wpQ_loadRH row_rat); (· rfl); (· rfl); (· ((refine List.mem_append_right _ ?_); (repeat (first | (with_reducible exact List.mem_cons_self) | with_reducible apply List.mem_cons_of_mem)))); (· (simp only [ratA_sz, Nat.reduceAdd, Nat.reduceLeDiff, Nat.le_refl]; done)); (· with_reducible exact ratA_all ..); (simp only [Act.put, List.setIfInBounds_toArray, List.set_cons_zero, List.set_cons_succ])) | ((with_reducible apply wpQ_buildO); (· rfl); (· rfl); (· rfl); (· rfl); (· rfl); (· rfl); (· rfl); (simp only [Act.put, List.setIfInBounds_toArray, List.set_cons_zero, List.set_cons_succ])) | go_big_quiet_step (fail)); (refine wpQuiet_nil ?_); (simp only [Array.getD_eq_getD_getElem?, List.getElem?_toArray, List.getElem?_cons_succ, List.getElem?_cons_zero, Option.getD_some]; rfl)); (simp only [Act.put, List.setIfInBounds_toArray, List.set_cons_zero, List.set_cons_succ]))
        ((with_reducible apply wpW_allocR row_ofr); (· rfl); (· rfl); (· intro p; exact ⟨[_], rfl⟩); (intro po); (simp only [Act.put, List.setIfInBounds_toArray, List.set_cons_zero, List.set_cons_succ]))
        ((with_reducible apply wpW_storeR row_ofr); (· rfl); (· rfl); (· rfl); (· rfl); (· with_reducible exact ofr_cells ..); (· (repeat (first | (with_reducible exact List.mem_cons_self) | with_reducible apply List.mem_cons_of_mem))); (· (simp only [ofrA_sz, Nat.reduceAdd, Nat.reduceLeDiff, Nat.le_refl]; done)); (· with_reducible exact ofr_splice ..); (· (repeat (first | (with_reducible exact Repl.here) | with_reducible apply Repl.there))); (· exact ⟨[_], rfl⟩); (simp only [Act.put, List.setIfInBounds_toArray, List.set_cons_zero, List.set_cons_succ]))
        (refine wpW_nil ?_; clear H; intro _ H)
        go_wp2_with (first
          | go_skip
          | ((with_reducible show wpList _ _ _ (_ :: _) _ _); (with_reducible apply wpl_loadRH row_ofr); (· rfl); (· rfl); (· exact H); (· (repeat (first | (with_reducible exact List.mem_cons_self) | with_reducible apply List.mem_cons_of_mem))); (· (simp only [ofrA_sz, Nat.reduceAdd, Nat.reduceLeDiff, Nat.le_refl]; done)); (· with_reducible exact ofrA_all ..); (simp only [Act.put, List.setIfInBounds_toArray, List.set_cons_zero, List.set_cons_succ]))
          | ((with_reducible refine AnsH.call (M _) H ?_); clear H; intro _ H)
          | ((with_reducible show wpList _ _ _ (_ :: _) _ _); (with_reducible apply wpl_loadCH); (· first | exact cell_ofrs | exact cell_u64); (· rfl); (· rfl); (· exact H); (· (repeat (first | (with_reducible exact List.mem_cons_self) | with_reducible apply List.mem_cons_of_mem))); (· with_reducible first | exact bkb_g0 .. | exact bkb_g1 ..); (simp only [Act.put, List.setIfInBounds_toArray, List.set_cons_zero, List.set_cons_succ])))
        go_ret2
        exact ⟨_, rfl, H.tail.tail⟩
      · have d1 : decide ((B.L.length : Int) ≥ 32) = false := decide_eq_false (by omega)
        have d2 : decide (32 ≤ (B.L.length : Int)) = false := decide_eq_false (by omega)
        have d3 : (B.nx == 18446744073709551615) = true := by simp; omega
        clear hf h1
        generalize B.L.length = n at *
        go_enter Try.func58, Try.ntmps58
        go_wp2_with (first
          | ((with_reducible show wpList _ _ _ (_ :: _) _ _); (with_reducible apply wpl_boxRH); (· rfl); (· rfl); (· exact H); (clear H; intro px _ H); (simp only [Act.put, List.setIfInBounds_toArray, List.set_cons_zero, List.set_cons_succ]))
          | go_skip
          | ((with_reducible refine AnsH.call (T _ _ _) H ?_); clear H; intro _ H))
        refine wp_region_W [10, 11] (fun l0 => ∃ pre, l0 = pre ++ _) H ⟨[], rfl⟩ (by kernel_rfl) (by kernel_rfl) ?_
        iterate 10 (apply wpW_step; (· rfl); (· rfl); (· exact Nat.le_of_ble_eq_true rfl); (· rintro l0 ⟨pre, rfl⟩ w0 H0; (first | go_big_quiet_skip | ((with_reducible apply wpQ_loadCH); (· exact cell_u64); (· rfl); (· rfl); (· ((refine List.mem_append_right _ ?_); (repeat (first | (with_reducible exact List.mem_cons_self) | with_reducible apply List.mem_cons_of_mem)))); (· exact bkb_g1 ..); (simp only [Act.put, List.setIfInBounds_toArray, List.set_cons_zero, List.set_cons_succ])) | ((with_reducible apply wpQ_loadRH row_rat); (· rfl); (· rfl); (· ((refine List.mem_append_right _ ?_); (repeat (first | (with_reducible exact List.mem_cons_self) | with_reducible apply List.mem_cons_of_mem)))); (· (simp only [ratA_sz, Nat.reduceAdd, Nat.reduceLeDiff, Nat.le_refl]; done)); (· with_reducible exact ratA_all ..); (simp only [Act.put, List.setIfInBounds_toArray, List.set_cons_zero, List.set_cons_succ])) | ((with_reducible apply wpQ_buildO); (· rfl); (· rfl); (· rfl); (· rfl); (· rfl); (· rfl); (· rfl); (simp only [Act.put, List.setIfInBounds_toArray, List.set_cons_zero, List.set_cons_succ])) | go_big_quiet_step (fail)); (refine wpQuiet_nil ?_); (simp only [Array.getD_eq_getD_getElem?, List.getElem?_toArray, List.getElem?_cons_succ, List.getElem?_cons_zero, Option.getD_some]; rfl)); (simp only [Act.put, List.setIfInBounds_toArray, List.set_cons_zero, List.set_cons_succ]))
        ((with_reducible apply wpW_allocR row_ofr); (· rfl); (· rfl); (· intro p; exact ⟨[_], rfl⟩); (intro po); (simp only [Act.put, List.setIfInBounds_toArray, List.set_cons_zero, List.set_cons_succ]))
        ((with_reducible apply wpW_storeR row_ofr); (· rfl); (· rfl); (· rfl); (· rfl); (· with_reducible exact ofr_cells ..); (· (repeat (first | (with_reducible exact List.mem_cons_self) | with_reducible apply List.mem_cons_of_mem))); (· (simp only [ofrA_sz, Nat.reduceAdd, Nat.reduceLeDiff, Nat.le_refl]; done)); (· with_reducible exact ofr_splice ..); (· (repeat (first | (with_reducible exact Repl.here) | with_reducible apply Repl.there))); (· exact ⟨[_], rfl⟩); (simp only [Act.put, List.setIfInBounds_toArray, List.set_cons_zero, List.set_cons_succ]))
        (refine wpW_nil ?_; clear H; intro _ H)
        go_wp2_with (first
          | go_skip
          | ((with_reducible show wpList _ _ _ (_ :: _) _ _); (with_reducible apply wpl_loadRH row_ofr); (· rfl); (· rfl); (· exact H); (· (repeat (first | (with_reducible exact List.mem_cons_self) | with_reducible apply List.mem_cons_of_mem))); (· (simp only [ofrA_sz, Nat.reduceAdd, Nat.reduceLeDiff, Nat.le_refl]; done)); (· with_reducible exact ofrA_all ..); (simp only [Act.put, List.setIfInBounds_toArray, List.set_cons_zero, List.set_cons_succ]))
          | ((with_reducible refine AnsH.call (M _) H ?_); clear H; intro _ H)
          | ((with_reducible show wpList _ _ _ (_ :: _) _ _); (with_reducible apply wpl_loadCH); (· first | exact cell_ofrs | exact cell_u64); (· rfl); (· rfl); (· exact H); (· (repeat (first | (with_reducible exact List.mem_cons_self) | with_reducible apply List.mem_cons_of_mem))); (· with_reducible first | exact bkb_g0 .. | exact bkb_g1 ..); (simp only [Act.put, List.setIfInBounds_toArray, List.set_cons_zero, List.set_cons_succ])))
        go_ret2
        exact ⟨_, rfl, H.tail.tail⟩
    · have e1 := place_fine hb hf
      have e2 := placeN_yes e1
      have e3 := placeS_yes e1
      rw [e1, e2, e3]
      clear e1 e2 e3 hb
      have d1 : decide ((B.L.length : Int) ≥ 32) = false := decide_eq_false (by omega)
      have d2 : decide (32 ≤ (B.L.length : Int)) = false := decide_eq_false (by omega)
      have d3 : (B.nx == 18446744073709551615) = false := by simp; omega
      have hn1 : B.L.length + 1 ≤ maxLen := by unfold maxLen; omega
      have hn2 : (B.L.length + 1) * 40 ≤ 140737488355328 := by omega
      have HLL := Lib.hid (show (B.L ++ [(⟨B.nx, ow, se, bu, le, nu, de⟩ : Ofr)]).length = B.L.length + 1 by simp)
      have HAP := Lib.hid (show ofrL (B.L ++ [(⟨B.nx, ow, se, bu, le, nu, de⟩ : Ofr)]) = ofrL B.L ++ (ofrA ⟨B.nx, ow, se, bu, le, nu, de⟩).toList by rw [ofrL_app, ofrL_one])
      have hwr : IntKind.u64.wrap (B.nx + 1) = B.nx + 1 := by simp [IntKind.wrap, IntKind.bits, IntKind.signed]; omega
      clear hf
      go_enter Try.func58, Try.ntmps58
      go_wp2_with (first
        | ((with_reducible show wpList _ _ _ (_ :: _) _ _); (with_reducible apply wpl_boxRH); (· rfl); (· rfl); (· exact H); (clear H; intro px _ H); (simp only [Act.put, List.setIfInBounds_toArray, List.set_cons_zero, List.set_cons_succ]))
        | go_skip
        | ((with_reducible refine AnsH.call (T _ _ _) H ?_); clear H; intro _ H))
      refine wp_region_W [10, 11] (fun l0 => ∃ pre, l0 = pre ++ _) H ⟨[], rfl⟩ (by kernel_rfl) (by kernel_rfl) ?_
      iterate 10 (apply wpW_step; (· rfl); (· rfl); (· exact Nat.le_of_ble_eq_true rfl); (· rintro l0 ⟨pre, rfl⟩ w0 H0; (first | go_big_quiet_skip | ((with_reducible apply wpQ_loadCH); (· exact cell_u64); (· rfl); (· rfl); (· ((refine List.mem_append_right _ ?_); (repeat (first | (with_reducible exact List.mem_cons_self) | with_reducible apply List.mem_cons_of_mem)))); (· exact bkb_g1 ..); (simp only [Act.put, List.setIfInBounds_toArray, List.set_cons_zero, List.set_cons_succ])) | ((with_reducible apply wpQ_loadRH row_rat); (· rfl); (· rfl); (· ((refine List.mem_append_right _ ?_); (repeat (first | (with_reducible exact List.mem_cons_self) | with_reducible apply List.mem_cons_of_mem)))); (· (simp only [ratA_sz, Nat.reduceAdd, Nat.reduceLeDiff, Nat.le_refl]; done)); (· with_reducible exact ratA_all ..); (simp only [Act.put, List.setIfInBounds_toArray, List.set_cons_zero, List.set_cons_succ])) | ((with_reducible apply wpQ_buildO); (· rfl); (· rfl); (· rfl); (· rfl); (· rfl); (· rfl); (· rfl); (simp only [Act.put, List.setIfInBounds_toArray, List.set_cons_zero, List.set_cons_succ])) | go_big_quiet_step (fail)); (refine wpQuiet_nil ?_); (simp only [Array.getD_eq_getD_getElem?, List.getElem?_toArray, List.getElem?_cons_succ, List.getElem?_cons_zero, Option.getD_some]; rfl)); (simp only [Act.put, List.setIfInBounds_toArray, List.set_cons_zero, List.set_cons_succ]))
      ((with_reducible apply wpW_allocR row_ofr); (· rfl); (· rfl); (· intro p; exact ⟨[_], rfl⟩); (intro po); (simp only [Act.put, List.setIfInBounds_toArray, List.set_cons_zero, List.set_cons_succ]))
      ((with_reducible apply wpW_storeR row_ofr); (· rfl); (· rfl); (· rfl); (· rfl); (· with_reducible exact ofr_cells ..); (· (repeat (first | (with_reducible exact List.mem_cons_self) | with_reducible apply List.mem_cons_of_mem))); (· (simp only [ofrA_sz, Nat.reduceAdd, Nat.reduceLeDiff, Nat.le_refl]; done)); (· with_reducible exact ofr_splice ..); (· (repeat (first | (with_reducible exact Repl.here) | with_reducible apply Repl.there))); (· exact ⟨[_], rfl⟩); (simp only [Act.put, List.setIfInBounds_toArray, List.set_cons_zero, List.set_cons_succ]))
      (refine wpW_nil ?_; clear H; intro _ H)
      go_wp2_with (first
        | go_skip
        | ((with_reducible show wpList _ _ _ (_ :: _) _ _); (with_reducible apply wpl_loadRH row_ofr); (· rfl); (· rfl); (· exact H); (· (repeat (first | (with_reducible exact List.mem_cons_self) | with_reducible apply List.mem_cons_of_mem))); (· (simp only [ofrA_sz, Nat.reduceAdd, Nat.reduceLeDiff, Nat.le_refl]; done)); (· with_reducible exact ofrA_all ..); (simp only [Act.put, List.setIfInBounds_toArray, List.set_cons_zero, List.set_cons_succ]))
        | ((with_reducible refine AnsH.call (M _) H ?_); clear H; intro _ H)
        | ((with_reducible show wpList _ _ _ (_ :: _) _ _); (with_reducible apply wpl_loadCH); (· first | exact cell_ofrs | exact cell_u64); (· rfl); (· rfl); (· exact H); (· (repeat (first | (with_reducible exact List.mem_cons_self) | with_reducible apply List.mem_cons_of_mem))); (· with_reducible first | exact bkb_g0 .. | exact bkb_g1 ..); (simp only [Act.put, List.setIfInBounds_toArray, List.set_cons_zero, List.set_cons_succ])))
      refine wp_region_F [6, 7, 10] [7, 10] [0, 1, 2, 3, 4, 5, 6, 7, 8, 9, 10] (Keeps [Cel po (ofrA ⟨B.nx, ow, se, bu, le, nu, de⟩) 83]) (Keeps [BkB p (.slice va B.L.length c) B.nx]) H (by kernel_rfl) (by kernel_rfl) ?_
      iterate 4 (apply wpF_step; (· rfl); (· rfl); (· rfl); (· exact Nat.le_of_ble_eq_true rfl); (· exact keeps1 (by (repeat (first | (with_reducible exact List.mem_cons_self) | with_reducible apply List.mem_cons_of_mem)))); (· intro l0 hs0 w0 H0; (first | go_big_quiet_skip | fail | go_big_quiet_step (fail)); (refine wpQuiet_nil ?_); (simp only [Array.getD_eq_getD_getElem?, List.getElem?_toArray, List.getElem?_cons_succ, List.getElem?_cons_zero, Option.getD_some]; rfl)); (simp only [Act.put, List.setIfInBounds_toArray, List.set_cons_zero, List.set_cons_succ]))
      (apply wpF_early; (· rfl); (· rfl); (· kernel_rfl); (· rfl); (· exact Nat.le_of_ble_eq_true rfl); (· exact keeps1 (by (repeat (first | (with_reducible exact List.mem_cons_self) | with_reducible apply List.mem_cons_of_mem)))); (· intro l0 hs0 w0 H0; (first | ((with_reducible apply wpQ_loadCH); (· exact cell_ofrs); (· rfl); (· rfl); (· exact hs0 _ List.mem_cons_self); (· exact bkb_g0 ..); (simp only [Act.put, List.setIfInBounds_toArray, List.set_cons_zero, List.set_cons_succ]))); (refine wpQuiet_nil ?_); (simp only [Array.getD_eq_getD_getElem?, List.getElem?_toArray, List.getElem?_cons_succ, List.getElem?_cons_zero, Option.getD_some]; rfl)); (simp only [Act.put, List.setIfInBounds_toArray, List.set_cons_zero, List.set_cons_succ]))
      (apply wpF_step; (· rfl); (· rfl); (· rfl); (· exact Nat.le_of_ble_eq_true rfl); (· exact keeps1 (by (repeat (first | (with_reducible exact List.mem_cons_self) | with_reducible apply List.mem_cons_of_mem)))); (· intro l0 hs0 w0 H0; (first | go_big_quiet_skip | ((with_reducible apply wpQ_loadRH row_ofr); (· rfl); (· rfl); (· exact hs0 _ List.mem_cons_self); (· exact Nat.le_refl _); (· exact ofrA_all ..); (simp only [Act.put, List.setIfInBounds_toArray, List.set_cons_zero, List.set_cons_succ])) | go_big_quiet_step (fail)); (refine wpQuiet_nil ?_); (simp only [Array.getD_eq_getD_getElem?, List.getElem?_toArray, List.getElem?_cons_succ, List.getElem?_cons_zero, Option.getD_some]; rfl)); (simp only [Act.put, List.setIfInBounds_toArray, List.set_cons_zero, List.set_cons_succ]))
      refine wpF_bsR rfl rfl rfl bs_ofr rfl (fun _ => keeps1 (by (repeat (first | (with_reducible exact List.mem_cons_self) | with_reducible apply List.mem_cons_of_mem)))) (fun _ h t ht => List.mem_cons_of_mem _ (h t ht)) fun pq => ?_
      (simp only [Act.put, List.setIfInBounds_toArray, List.set_cons_zero, List.set_cons_succ])
      refine wpF_append slO rfl rfl rfl rfl (.there (.there (.there (.there .here)))) List.mem_cons_self rfl rfl (ofrA_ones _) hn1 hn2 rfl (fun _ => keeps1 (by (repeat (first | (with_reducible exact List.mem_cons_self) | with_reducible apply List.mem_cons_of_mem)))) fun a2 c2 => ?_
      (simp only [Act.put, List.setIfInBounds_toArray, List.set_cons_zero, List.set_cons_succ])
      iterate 2 (apply wpF_step; (· rfl); (· rfl); (· rfl); (· exact Nat.le_of_ble_eq_true rfl); (· exact keeps1 (by (repeat (first | (with_reducible exact List.mem_cons_self) | with_reducible apply List.mem_cons_of_mem)))); (· intro l0 hs0 w0 H0; (first | go_big_quiet_skip | fail | go_big_quiet_step (fail)); (refine wpQuiet_nil ?_); (simp only [Array.getD_eq_getD_getElem?, List.getElem?_toArray, List.getElem?_cons_succ, List.getElem?_cons_zero, Option.getD_some]; rfl)); (simp only [Act.put, List.setIfInBounds_toArray, List.set_cons_zero, List.set_cons_succ]))
      refine wpF_storeC (v := .slice a2 (B.L.length + 1) c2) cell_ofrs rfl rfl rfl rfl rfl ⟨rfl, rfl⟩ (by (repeat (first | (with_reducible exact List.mem_cons_self) | with_reducible apply List.mem_cons_of_mem))) (by rw [bkb_sz]; decide) (bkb_s0 ..) (by (repeat (first | (with_reducible exact Repl.here) | with_reducible apply Repl.there))) rfl (keeps1 (by (repeat (first | (with_reducible exact List.mem_cons_self) | with_reducible apply List.mem_cons_of_mem)))) ?_
      (simp only [Act.put, List.setIfInBounds_toArray, List.set_cons_zero, List.set_cons_succ])
      (refine wpF_nil ?_; clear H; intro _ H)
      go_wp2_with (first
        | go_skip
        | ((with_reducible show wpList _ _ _ (_ :: _) _ _); (with_reducible apply wpl_loadCH); (· first | exact cell_ofrs | exact cell_u64); (· rfl); (· rfl); (· exact H); (· (repeat (first | (with_reducible exact List.mem_cons_self) | with_reducible apply List.mem_cons_of_mem))); (· with_reducible first | exact bkb_g0 .. | exact bkb_g1 ..); (simp only [Act.put, List.setIfInBounds_toArray, List.set_cons_zero, List.set_cons_succ]))
        | (first | ((with_reducible show wpList _ _ _ (_ :: _) _ _); (with_reducible apply wpl_storeIH); (· exact cell_u64); (· rfl); (· rfl); (· rfl); (· exact H); (· (repeat (first | (with_reducible exact List.mem_cons_self) | with_reducible apply List.mem_cons_of_mem))); (· (simp only [bkb_sz, Nat.reduceLT]; done)); (· (with_reducible first | exact bkb_s0 .. | exact bkb_s1 ..)); (· (repeat (first | (with_reducible exact Repl.here) | with_reducible apply Repl.there))); (clear H; intro _ H); (simp only [Act.put, List.setIfInBounds_toArray, List.set_cons_zero, List.set_cons_succ])) | ((with_reducible show wpList _ _ _ (_ :: _) _ _); (with_reducible apply wpl_storeBH); (· exact cell_u64); (· rfl); (· rfl); (· rfl); (· exact H); (· (repeat (first | (with_reducible exact List.mem_cons_self) | with_reducible apply List.mem_cons_of_mem))); (· (simp only [bkb_sz, Nat.reduceLT]; done)); (· (with_reducible first | exact bkb_s0 .. | exact bkb_s1 ..)); (· (repeat (first | (with_reducible exact Repl.here) | with_reducible apply Repl.there))); (clear H; intro _ H); (simp only [Act.put, List.setIfInBounds_toArray, List.set_cons_zero, List.set_cons_succ])) | ((with_reducible show wpList _ _ _ (_ :: _) _ _); (with_reducible apply wpl_storeSH); (· exact cell_u64); (· rfl); (· rfl); (· rfl); (· exact H); (· (repeat (first | (with_reducible exact List.mem_cons_self) | with_reducible apply List.mem_cons_of_mem))); (· (simp only [bkb_sz, Nat.reduceLT]; done)); (· (with_reducible first | exact bkb_s0 .. | exact bkb_s1 ..)); (· (repeat (first | (with_reducible exact Repl.here) | with_reducible apply Repl.there))); (clear H; intro _ H); (simp only [Act.put, List.setIfInBounds_toArray, List.set_cons_zero, List.set_cons_succ])) | ((with_reducible show wpList _ _ _ (_ :: _) _ _); (with_reducible apply wpl_storePH); (· exact cell_u64); (· rfl); (· rfl); (· rfl); (· exact H); (· (repeat (first | (with_reducible exact List.mem_cons_self) | with_reducible apply List.mem_cons_of_mem))); (· (simp only [bkb_sz, Nat.reduceLT]; done)); (· (with_reducible first | exact bkb_s0 .. | exact bkb_s1 ..)); (· (repeat (first | (with_reducible exact Repl.here) | with_reducible apply Repl.there))); (clear H; intro _ H); (simp only [Act.put, List.setIfInBounds_toArray, List.set_cons_zero, List.set_cons_succ])))
        | ((with_reducible show wpList _ _ _ (_ :: _) _ _); (with_reducible apply wpl_loadCH); (· first | exact cell_u64 | exact cell_party | exact cell_cur | exact cell_i64); (· rfl); (· rfl); (· exact H); (· (repeat (first | (with_reducible exact List.mem_cons_self) | with_reducible apply List.mem_cons_of_mem))); (· with_reducible first | exact ofr_g0 .. | exact ofr_g1 .. | exact ofr_g2 .. | exact ofr_g3 .. | exact ofr_g4 ..); (simp only [Act.put, List.setIfInBounds_toArray, List.set_cons_zero, List.set_cons_succ])))
      go_ret2
      refine ⟨.slice a2 (B.L.length + 1) c2, rfl, ?_⟩
      rw [HLL.out]
      show Heap W (BkB p _ _ :: RowT 83 7 _ _ (ofrL _) :: l) _
      rw [HAP.out]
      exact ((H.top2 (.there (.there (.there (.there .here)))) .here).drop (.there (.there .here))).drop (.there (.there .here)) |>.drop (.there (.there .here))
end
end Go.Proofs.Ytacglcpjbepfnaa
