/- Part 4 of what ProofBooksOf stands on: Bok5, RegCut, Bok6, Bok7, Bok8, Grw, PwExt, SortG. -/
import Derived.Test.YtacglcpjbepfnaaBksOPart3
import Derived.Sort.Grow
import Derived.Lib.Small
import Derived.RowKit
import Derived.Shelf.SlSortCmp.WholeK
/- books: Place. -/
namespace Go.Proofs.Ytacglcpjbepfnaa
open Go.RowKit
set_option linter.unusedSimpArgs false
set_option linter.unusedVariables false
set_option maxRecDepth 100000
theorem ofrL_app (L M : List Ofr) : ofrL (L ++ M) = ofrL L ++ ofrL M := by simp [ofrL]
theorem ofrL_one (o : Ofr) : ofrL [o] = (ofrA o).toList := by simp [ofrL, ofrA]
theorem ofrA_ones (o : Ofr) : OneCells (ofrA o).toList := by rw [← ofrL_one]; exact ofrL_ones _
abbrev ratA (nu de : Int) : Array Value := #[.int .i64 nu, .int .i64 de]
theorem ratA_sz (nu de : Int) : (ratA nu de).size = 2 := rfl
theorem ratA_all (nu de : Int) : (ratA nu de).extract 0 (0 + 2) = ratA nu de := by simp [ratA]
theorem bs_ofr : Try.prog.underlying 76 = some (.slice 83) ∧ (Try.prog.info? 83).map (fun i => (i.size, i.zero.map Value.cells)) = some ((ofrA ofrZ).size, some (ofrA ofrZ)) ∧ 0 < (ofrA ofrZ).size ∧ (ofrA ofrZ).size ≤ 65536 := ⟨Try.underlying76, by kernel_rfl, by decide, by decide⟩
theorem place_bad {B : Bok} {ow se bu le nu de : Int} (h : mayO ⟨B.nx, ow, se, bu, le, nu, de⟩ = false) : placeE B ow se bu le nu de = 1 := by unfold placeE placeO; rw [if_pos h]
theorem place_full {B : Bok} {ow se bu le nu de : Int} (h : mayO ⟨B.nx, ow, se, bu, le, nu, de⟩ = true) (h2 : 32 ≤ B.L.length ∨ B.nx = 18446744073709551615) : placeE B ow se bu le nu de = 9 := by
  unfold placeE placeO; rw [if_neg (by rw [h]; decide), if_pos h2]
theorem place_fine {B : Bok} {ow se bu le nu de : Int} (h : mayO ⟨B.nx, ow, se, bu, le, nu, de⟩ = true) (h2 : ¬ (32 ≤ B.L.length ∨ B.nx = 18446744073709551615)) : placeE B ow se bu le nu de = 0 := by
  unfold placeE placeO; rw [if_neg (by rw [h]; decide), if_neg h2]
theorem placeN_no {B : Bok} {ow se bu le nu de : Int} (h : placeE B ow se bu le nu de ≠ 0) : placeN B ow se bu le nu de = 0 := by unfold placeN; rw [if_neg h]
theorem placeN_yes {B : Bok} {ow se bu le nu de : Int} (h : placeE B ow se bu le nu de = 0) : placeN B ow se bu le nu de = B.nx := by unfold placeN; rw [if_pos h]
theorem placeS_no {B : Bok} {ow se bu le nu de : Int} (h : placeE B ow se bu le nu de ≠ 0) : placeS B ow se bu le nu de = B := by unfold placeS; rw [if_neg h]
theorem placeS_yes {B : Bok} {ow se bu le nu de : Int} (h : placeE B ow se bu le nu de = 0) : placeS B ow se bu le nu de = ⟨B.L ++ [⟨B.nx, ow, se, bu, le, nu, de⟩], B.nx + 1⟩ := by unfold placeS placeO; rw [if_pos h]
section
variable {W w : World} {l : List Thing}
set_option maxHeartbeats 8000000
theorem place_H {p : Nat} {v : Value} {B : Bok} (ow se bu le nu de : Int) (hk : OfrOk ⟨B.nx, ow, se, bu, le, nu, de⟩) (G : B.Good) (H : Heap W (BkB p v B.nx :: OfT v B.L.length B.L :: l) w) :
    Calls Try.prog 58 #[.pointer (some ⟨p, 0, none⟩), .int .u8 ow, .int .u8 se, .int .u8 bu, .int .i64 le, .agg (ratA nu de)] w fun e w' =>
      ∃ v', e = .returned (.tuple #[.int .u64 (placeN B ow se bu le nu de), .int .i64 (placeE B ow se bu le nu de)]) ∧ Heap W (BkB p v' (placeS B ow se bu le nu de).nx :: OfT v' (placeS B ow se bu le nu de).L.length (placeS B ow se bu le nu de).L :: l) w' := by
  obtain ⟨va, c, rfl, hc1, hc2⟩ := RowT.form0 (H.ok _ (List.mem_cons_of_mem _ List.mem_cons_self))
  have hfew := G.few
  have hnx1 := G.nx.1
  have hnx2 := G.nx.2
  have T := fun px c2 t => bthere_yes (W := W) (l := Cel px c2 t :: BkB p (.slice va B.L.length c) B.nx :: OfT (.slice va B.L.length c) B.L.length B.L :: l) (List.mem_cons_of_mem _ List.mem_cons_self) (show 0 < B.nx by omega)
  have M := fun l' => bmay_H (W := W) (l := l') ⟨B.nx, ow, se, bu, le, nu, de⟩ hk
  cases hb : mayO ⟨B.nx, ow, se, bu, le, nu, de⟩ with
  | false =>
    rw [hb] at M
    have e1 := place_bad hb
    have e2 := placeN_no (by rw [e1]; decide : placeE B ow se bu le nu de ≠ 0)
    have e3 := placeS_no (by rw [e1]; decide : placeE B ow se bu le nu de ≠ 0)
    rw [e1, e2, e3]
    clear e1 e2 e3 hb hfew
    generalize B.L.length = n at *
    go_enter Try.func58, Try.ntmps58
    go_wp2_with (first
      | ((with_reducible show wpList _ _ _ (_ :: _) _ _); (with_reducible apply wpl_boxRH); (· rfl); (· rfl); (· exact H); (clear H; intro px _ H); (simp only [Act.put, List.setIfInBounds_toArray, List.set_cons_zero, List.set_cons_succ]))
      | go_skip
      | ((with_reducible refine AnsH.call (T _ _ _) H ?_); clear H; intro _ H))
    refine wp_region_W [10, 11] (fun l0 => ∃ pre, l0 = pre ++ _) H ⟨[], rfl⟩ (by kernel_rfl) (by kernel_rfl) ?_
    iterate 10 (apply wpW_step; (· rfl); (· rfl); (· exact Nat.le_of_ble_eq_true rfl); (· rintro l0 ⟨pre, rfl⟩ w0 H0; (first | go_big_quiet_skip | ((with_reducible apply wpQ_loadCH); (· exact cell_u64); (· rfl); (· rfl); (· ((refine List.mem_append_right _ ?_); (repeat (first | (with_reducible exact List.mem_cons_self) | with_reducible apply List.mem_cons_of_mem)))); (· exact bkb_g1 ..); (simp only [Act.put, List.setIfInBounds_toArray, List.set_cons_zero, List.set_cons_succ])) | ((with_reducible apply wpQ_loadRH row_rat); (· rfl); (· rfl); (· ((refine List.mem_append_right _ ?_); (repeat (first | (with_reducible exact List.mem_cons_self) | with_reducible apply List.mem_cons_of_mem)))); (· (simp only [ratA_sz, Nat.reduceAdd, Nat.reduceLeDiff, Nat.le_refl]; done)); (· with_reducible exact ratA_all ..); (simp only [Act.put, List.setIfInBounds_toArray, List.set_cons_zero, List.set_cons_succ])) | ((with_reducible apply wpQ_buildO); (· rfl); (· rfl); (· rfl); (· rfl); (· rfl); (· rfl); (· rfl); (simp only [Act.put, List.setIfInBounds_toArray, List.set_cons_zero, List.set_cons_succ])) | go_big_quiet_step (fail)); (refine wpQuiet_nil ?_); (simp only [Array.getD_eq_getD_getElem?, List.getElem?_toArray, List.getElem?_cons_succ, List.getElem?_cons_zero, Option.getD_some]; rfl)); (simp only [Act.put, List.setIfInBounds_toArray, List.set_cons_zero, List.set_cons_succ]))
    ((with_reducible apply wpW_allocR row_ofr); (· rfl); (· rfl); (· intro p; exact ⟨[_], rfl⟩); (intro po); (simp only [Act.put, List.setIfInBounds_toArray, List.set_cons_zero, List.set_cons_succ]))
    ((with_reducible apply wpW_storeR row_ofr); (· rfl); (· rfl); (· rfl); (· rfl); (· with_reducible exact ofr_cells ..); (· (repeat (first | (with_reducible exact List.mem_cons_self) | with_reducible apply List.mem_cons_of_mem))); (· (simp only [ofrA_sz, Nat.reduceAdd, Nat.reduceLeDiff, Nat.le_refl]; done)); (· with_reducible exact ofr_splice ..); (· (repeat (first | (with_reducible exact Repl.here) | with_reducible apply Repl.there))); (· exact ⟨[_], rfl⟩); (simp only [Act.put, List.setIfInBounds_toArray, List.set_cons_zero, List.set_cons_succ]))
    (refine wpW_nil ?_; clear H; intro _ H)
    go_wp2_with (first
      | go_skip
      | ((with_reducible show wpList _ _ _ (_ :: _) _ _); (with_reducible apply wpl_loadRH row_ofr); (· rfl); (· rfl); (· exact H); (· (repeat (first | (with_reducible exact List.mem_cons_self) | with_reducible apply List.mem_cons_of_mem))); (· (simp only [ofrA_sz, Nat.reduceAdd, Nat.reduceLeDiff, Nat.le_refl]; done)); (· with_reducible exact ofrA_all ..); (simp only [Act.put, List.setIfInBounds_toArray, List.set_cons_zero, List.set_cons_succ]))
      | ((with_reducible refine AnsH.call (M _) H ?_); clear H; intro _ H))
    go_ret2
    exact ⟨_, rfl, H.tail.tail⟩
  | true =>
    rw [hb] at M
    by_cases hf : 32 ≤ B.L.length ∨ B.nx = 18446744073709551615
    · have e1 := place_full hb hf
      have e2 := placeN_no (by rw [e1]; decide : placeE B ow se bu le nu de ≠ 0)
      have e3 := placeS_no (by rw [e1]; decide : placeE B ow se bu le nu de ≠ 0)
      rw [e1, e2, e3]
      clear e1 e2 e3 hb hfew
      by_cases h1 : 32 ≤ B.L.length
      · have d1 : decide ((B.L.length : Int) ≥ 32) = true := decide_eq_true (by omega)
        have d2 : decide (32 ≤ (B.L.length : Int)) = true := decide_eq_true (by omega)
        clear hf h1
        generalize B.L.length = n at *
        go_enter Try.func58, Try.ntmps58
        go_wp2_with (first
          | ((with_reducible show wpList _ _ _ (_ :: _) _ _); (with_reducible apply wpl_boxRH); (· rfl); (· rfl); (· exact H); (clear H; intro px _ H); (simp only [Act.put, List.setIfInBounds_toArray, List.set_cons_zero, List.set_cons_succ]))
          | go_skip
          | ((with_reducible refine AnsH.call (T _ _ _) H ?_); clear H; intro _ H))
        refine wp_region_W [10, 11] (fun l0 => ∃ pre, l0 = pre ++ _) H ⟨[], rfl⟩ (by kernel_rfl) (by kernel_rfl) ?_
        iterate 10 (apply wpW_step; (· rfl); (· rfl); (· exact Nat.le_of_ble_eq_true rfl); (· rintro l0 ⟨pre, rfl⟩ w0 H0; (first | go_big_quiet_skip | ((with_reducible apply wpQ_loadCH); (· exact cell_u64); (· rfl); (· rfl); (· ((refine List.mem_append_right _ ?_); (repeat (first | (with_reducible exact List.mem_cons_self) | with_reducible apply List.mem_cons_of_mem)))); (· exact bkb_g1 ..); (simp only [Act.put, List.setIfInBounds_toArray, List.set_cons_zero, List.set_cons_succ])) | ((with_reducible apply wpQ_loadRH row_rat); (· rfl); (· rfl); (· ((refine List.mem_append_right _ ?_); (repeat (first | (with_reducible exact List.mem_cons_self) | with_reducible apply List.mem_cons_of_mem)))); (· (simp only [ratA_sz, Nat.reduceAdd, Nat.reduceLeDiff, Nat.le_refl]; done)); (· with_reducible exact ratA_all ..); (simp only [Act.put, List.setIfInBounds_toArray, List.set_cons_zero, List.set_cons_succ])) | ((with_reducible apply wpQ_buildO); (· rfl); (· rfl); (· rfl); (· rfl); (· rfl); (· rfl); (· rfl); (simp only [Act.put, List.setIfInBounds_toArray, List.set_cons_zero, List.set_cons_succ])) | go_big_quiet_step (fail)); (refine wpQuiet_nil ?_); (simp only [Array.getD_eq_getD_getElem?, List.getElem?_toArray, List.getElem?_cons_succ, List.getElem?_cons_zero, Option.getD_some]; rfl)); (simp only [Act.put, List.setIfInBounds_toArray, List.set_cons_zero, List.set_cons_succ]))
        ((with_reducible apply wpW_allocR row_ofr); (· rfl); (· rfl); (· intro p; exact ⟨[_], rfl⟩); (intro po); (simp only [Act.put, List.setIfInBounds_toArray, List.set_cons_zero, List.set_cons_succ]))
        ((with_reducible apply wpW_storeR row_ofr); (· rfl); (· rfl); (· rfl); (· rfl); (· with_reducible exact ofr_cells ..); (· (repeat (first | (with_reducible exact List.mem_cons_self) | with_reducible apply List.mem_cons_of_mem))); (· (simp only [ofrA_sz, Nat.reduceAdd, Nat.reduceLeDiff, Nat.le_refl]; done)); (· with_reducible exact ofr_splice ..); (· (repeat (first | (with_reducible exact Repl.here) | with_reducible apply Repl.there))); (· exact ⟨[_], rfl⟩); (simp only [Act.put, List.setIfInBounds_toArray, List.set_cons_zero, List.set_cons_succ]))
        (refine wpW_nil ?_; clear H; intro _ H)
        go_wp2_with (first
          | go_skip
          | ((with_reducible show wpList _ _ _ (_ :: _) _ _); (with_reducible apply wpl_loadRH row_ofr); (· rfl); (· rfl); (· exact H); (· (repeat (first | (with_reducible exact List.mem_cons_self) | with_reducible apply List.mem_cons_of_mem))); (· (simp only [ofrA_sz, Nat.reduceAdd, Nat.reduceLeDiff, Nat.le_refl]; done)); (· with_reducible exact ofrA_all ..); (simp only [Act.put, List.setIfInBounds_toArray, List.set_cons_zero, List.set_cons_succ]))
          | ((with_reducible refine AnsH.call (M _) H ?_); clear H; intro _ H)
          | ((with_reducible show wpList _ _ _ (_ :: _) _ _); (with_reducible apply wpl_loadCH); (· first | exact cell_ofrs | exact cell_u64); (· rfl); (· rfl); (· exact H); (· (repeat (first | (with_reducible exact List.mem_cons_self) | with_reducible apply List.mem_cons_of_mem))); (· with_reducible first | exact bkb_g0 .. | exact bkb_g1 ..); (simp only [Act.put, List.setIfInBounds_toArray, List.set_cons_zero, List.set_cons_succ])))
        go_ret2
        exact ⟨_, rfl, H.tail.tail⟩
      · have d1 : decide ((B.L.length : Int) ≥ 32) = false := decide_eq_false (by omega)
        have d2 : decide (32 ≤ (B.L.length : Int)) = false := decide_eq_false (by omega)
        have d3 : (B.nx == 18446744073709551615) = true := by simp; omega
        clear hf h1
        generalize B.L.length = n at *
        go_enter Try.func58, Try.ntmps58
        go_wp2_with (first
          | ((with_reducible show wpList _ _ _ (_ :: _) _ _); (with_reducible apply wpl_boxRH); (· rfl); (· rfl); (· exact H); (clear H; intro px _ H); (simp only [Act.put, List.setIfInBounds_toArray, List.set_cons_zero, List.set_cons_succ]))
          | go_skip
          | ((with_reducible refine AnsH.call (T _ _ _) H ?_); clear H; intro _ H))
        refine wp_region_W [10, 11] (fun l0 => ∃ pre, l0 = pre ++ _) H ⟨[], rfl⟩ (by kernel_rfl) (by kernel_rfl) ?_
        iterate 10 (apply wpW_step; (· rfl); (· rfl); (· exact Nat.le_of_ble_eq_true rfl); (· rintro l0 ⟨pre, rfl⟩ w0 H0; (first | go_big_quiet_skip | ((with_reducible apply wpQ_loadCH); (· exact cell_u64); (· rfl); (· rfl); (· ((refine List.mem_append_right _ ?_); (repeat (first | (with_reducible exact List.mem_cons_self) | with_reducible apply List.mem_cons_of_mem)))); (· exact bkb_g1 ..); (simp only [Act.put, List.setIfInBounds_toArray, List.set_cons_zero, List.set_cons_succ])) | ((with_reducible apply wpQ_loadRH row_rat); (· rfl); (· rfl); (· ((refine List.mem_append_right _ ?_); (repeat (first | (with_reducible exact List.mem_cons_self) | with_reducible apply List.mem_cons_of_mem)))); (· (simp only [ratA_sz, Nat.reduceAdd, Nat.reduceLeDiff, Nat.le_refl]; done)); (· with_reducible exact ratA_all ..); (simp only [Act.put, List.setIfInBounds_toArray, List.set_cons_zero, List.set_cons_succ])) | ((with_reducible apply wpQ_buildO); (· rfl); (· rfl); (· rfl); (· rfl); (· rfl); (· rfl); (· rfl); (simp only [Act.put, List.setIfInBounds_toArray, List.set_cons_zero, List.set_cons_succ])) | go_big_quiet_step (fail)); (refine wpQuiet_nil ?_); (simp only [Array.getD_eq_getD_getElem?, List.getElem?_toArray, List.getElem?_cons_succ, List.getElem?_cons_zero, Option.getD_some]; rfl)); (simp only [Act.put, List.setIfInBounds_toArray, List.set_cons_zero, List.set_cons_succ]))
        ((with_reducible apply wpW_allocR row_ofr); (· rfl); (· rfl); (· intro p; exact ⟨[_], rfl⟩); (intro po); (simp only [Act.put, List.setIfInBounds_toArray, List.set_cons_zero, List.set_cons_succ]))
        ((with_reducible apply wpW_storeR row_ofr); (· rfl); (· rfl); (· rfl); (· rfl); (· with_reducible exact ofr_cells ..); (· (repeat (first | (with_reducible exact List.mem_cons_self) | with_reducible apply List.mem_cons_of_mem))); (· (simp only [ofrA_sz, Nat.reduceAdd, Nat.reduceLeDiff, Nat.le_refl]; done)); (· with_reducible exact ofr_splice ..); (· (repeat (first | (with_reducible exact Repl.here) | with_reducible apply Repl.there))); (· exact ⟨[_], rfl⟩); (simp only [Act.put, List.setIfInBounds_toArray, List.set_cons_zero, List.set_cons_succ]))
        (refine wpW_nil ?_; clear H; intro _ H)
        go_wp2_with (first
          | go_skip
          | ((with_reducible show wpList _ _ _ (_ :: _) _ _); (with_reducible apply wpl_loadRH row_ofr); (· rfl); (· rfl); (· exact H); (· (repeat (first | (with_reducible exact List.mem_cons_self) | with_reducible apply List.mem_cons_of_mem))); (· (simp only [ofrA_sz, Nat.reduceAdd, Nat.reduceLeDiff, Nat.le_refl]; done)); (· with_reducible exact ofrA_all ..); (simp only [Act.put, List.setIfInBounds_toArray, List.set_cons_zero, List.set_cons_succ]))
          | ((with_reducible refine AnsH.call (M _) H ?_); clear H; intro _ H)
          | ((with_reducible show wpList _ _ _ (_ :: _) _ _); (with_reducible apply wpl_loadCH); (· first | exact cell_ofrs | exact cell_u64); (· rfl); (· rfl); (· exact H); (· (repeat (first | (with_reducible exact List.mem_cons_self) | with_reducible apply List.mem_cons_of_mem))); (· with_reducible first | exact bkb_g0 .. | exact bkb_g1 ..); (simp only [Act.put, List.setIfInBounds_toArray, List.set_cons_zero, List.set_cons_succ])))
        go_ret2
        exact ⟨_, rfl, H.tail.tail⟩
    · have e1 := place_fine hb hf
      have e2 := placeN_yes e1
      have e3 := placeS_yes e1
      rw [e1, e2, e3]
      clear e1 e2 e3 hb
      have d1 : decide ((B.L.length : Int) ≥ 32) = false := decide_eq_false (by omega)
      have d2 : decide (32 ≤ (B.L.length : Int)) = false := decide_eq_false (by omega)
      have d3 : (B.nx == 18446744073709551615) = false := by simp; omega
      have hn1 : B.L.length + 1 ≤ maxLen := by unfold maxLen; omega
      have hn2 : (B.L.length + 1) * 40 ≤ 140737488355328 := by omega
      have HLL := Lib.hid (show (B.L ++ [(⟨B.nx, ow, se, bu, le, nu, de⟩ : Ofr)]).length = B.L.length + 1 by simp)
      have HAP := Lib.hid (show ofrL (B.L ++ [(⟨B.nx, ow, se, bu, le, nu, de⟩ : Ofr)]) = ofrL B.L ++ (ofrA ⟨B.nx, ow, se, bu, le, nu, de⟩).toList by rw [ofrL_app, ofrL_one])
      have hwr : IntKind.u64.wrap (B.nx + 1) = B.nx + 1 := by simp [IntKind.wrap, IntKind.bits, IntKind.signed]; omega
      clear hf
      go_enter Try.func58, Try.ntmps58
      go_wp2_with (first
        | ((with_reducible show wpList _ _ _ (_ :: _) _ _); (with_reducible apply wpl_boxRH); (· rfl); (· rfl); (· exact H); (clear H; intro px _ H); (simp only [Act.put, List.setIfInBounds_toArray, List.set_cons_zero, List.set_cons_succ]))
        | go_skip
        | ((with_reducible refine AnsH.call (T _ _ _) H ?_); clear H; intro _ H))
      refine wp_region_W [10, 11] (fun l0 => ∃ pre, l0 = pre ++ _) H ⟨[], rfl⟩ (by kernel_rfl) (by kernel_rfl) ?_
      iterate 10 (apply wpW_step; (· rfl); (· rfl); (· exact Nat.le_of_ble_eq_true rfl); (· rintro l0 ⟨pre, rfl⟩ w0 H0; (first | go_big_quiet_skip | ((with_reducible apply wpQ_loadCH); (· exact cell_u64); (· rfl); (· rfl); (· ((refine List.mem_append_right _ ?_); (repeat (first | (with_reducible exact List.mem_cons_self) | with_reducible apply List.mem_cons_of_mem)))); (· exact bkb_g1 ..); (simp only [Act.put, List.setIfInBounds_toArray, List.set_cons_zero, List.set_cons_succ])) | ((with_reducible apply wpQ_loadRH row_rat); (· rfl); (· rfl); (· ((refine List.mem_append_right _ ?_); (repeat (first | (with_reducible exact List.mem_cons_self) | with_reducible apply List.mem_cons_of_mem)))); (· (simp only [ratA_sz, Nat.reduceAdd, Nat.reduceLeDiff, Nat.le_refl]; done)); (· with_reducible exact ratA_all ..); (simp only [Act.put, List.setIfInBounds_toArray, List.set_cons_zero, List.set_cons_succ])) | ((with_reducible apply wpQ_buildO); (· rfl); (· rfl); (· rfl); (· rfl); (· rfl); (· rfl); (· rfl); (simp only [Act.put, List.setIfInBounds_toArray, List.set_cons_zero, List.set_cons_succ])) | go_big_quiet_step (fail)); (refine wpQuiet_nil ?_); (simp only [Array.getD_eq_getD_getElem?, List.getElem?_toArray, List.getElem?_cons_succ, List.getElem?_cons_zero, Option.getD_some]; rfl)); (simp only [Act.put, List.setIfInBounds_toArray, List.set_cons_zero, List.set_cons_succ]))
      ((with_reducible apply wpW_allocR row_ofr); (· rfl); (· rfl); (· intro p; exact ⟨[_], rfl⟩); (intro po); (simp only [Act.put, List.setIfInBounds_toArray, List.set_cons_zero, List.set_cons_succ]))
      ((with_reducible apply wpW_storeR row_ofr); (· rfl); (· rfl); (· rfl); (· rfl); (· with_reducible exact ofr_cells ..); (· (repeat (first | (with_reducible exact List.mem_cons_self) | with_reducible apply List.mem_cons_of_mem))); (· (simp only [ofrA_sz, Nat.reduceAdd, Nat.reduceLeDiff, Nat.le_refl]; done)); (· with_reducible exact ofr_splice ..); (· (repeat (first | (with_reducible exact Repl.here) | with_reducible apply Repl.there))); (· exact ⟨[_], rfl⟩); (simp only [Act.put, List.setIfInBounds_toArray, List.set_cons_zero, List.set_cons_succ]))
      (refine wpW_nil ?_; clear H; intro _ H)
      go_wp2_with (first
        | go_skip
        | ((with_reducible show wpList _ _ _ (_ :: _) _ _); (with_reducible apply wpl_loadRH row_ofr); (· rfl); (· rfl); (· exact H); (· (repeat (first | (with_reducible exact List.mem_cons_self) | with_reducible apply List.mem_cons_of_mem))); (· (simp only [ofrA_sz, Nat.reduceAdd, Nat.reduceLeDiff, Nat.le_refl]; done)); (· with_reducible exact ofrA_all ..); (simp only [Act.put, List.setIfInBounds_toArray, List.set_cons_zero, List.set_cons_succ]))
        | ((with_reducible refine AnsH.call (M _) H ?_); clear H; intro _ H)
        | ((with_reducible show wpList _ _ _ (_ :: _) _ _); (with_reducible apply wpl_loadCH); (· first | exact cell_ofrs | exact cell_u64); (· rfl); (· rfl); (· exact H); (· (repeat (first | (with_reducible exact List.mem_cons_self) | with_reducible apply List.mem_cons_of_mem))); (· with_reducible first | exact bkb_g0 .. | exact bkb_g1 ..); (simp only [Act.put, List.setIfInBounds_toArray, List.set_cons_zero, List.set_cons_succ])))
      refine wp_region_F [6, 7, 10] [7, 10] [0, 1, 2, 3, 4, 5, 6, 7, 8, 9, 10] (Keeps [Cel po (ofrA ⟨B.nx, ow, se, bu, le, nu, de⟩) 83]) (Keeps [BkB p (.slice va B.L.length c) B.nx]) H (by kernel_rfl) (by kernel_rfl) ?_
      iterate 4 (apply wpF_step; (· rfl); (· rfl); (· rfl); (· exact Nat.le_of_ble_eq_true rfl); (· exact keeps1 (by (repeat (first | (with_reducible exact List.mem_cons_self) | with_reducible apply List.mem_cons_of_mem)))); (· intro l0 hs0 w0 H0; (first | go_big_quiet_skip | fail | go_big_quiet_step (fail)); (refine wpQuiet_nil ?_); (simp only [Array.getD_eq_getD_getElem?, List.getElem?_toArray, List.getElem?_cons_succ, List.getElem?_cons_zero, Option.getD_some]; rfl)); (simp only [Act.put, List.setIfInBounds_toArray, List.set_cons_zero, List.set_cons_succ]))
      (apply wpF_early; (· rfl); (· rfl); (· kernel_rfl); (· rfl); (· exact Nat.le_of_ble_eq_true rfl); (· exact keeps1 (by (repeat (first | (with_reducible exact List.mem_cons_self) | with_reducible apply List.mem_cons_of_mem)))); (· intro l0 hs0 w0 H0; (first | ((with_reducible apply wpQ_loadCH); (· exact cell_ofrs); (· rfl); (· rfl); (· exact hs0 _ List.mem_cons_self); (· exact bkb_g0 ..); (simp only [Act.put, List.setIfInBounds_toArray, List.set_cons_zero, List.set_cons_succ]))); (refine wpQuiet_nil ?_); (simp only [Array.getD_eq_getD_getElem?, List.getElem?_toArray, List.getElem?_cons_succ, List.getElem?_cons_zero, Option.getD_some]; rfl)); (simp only [Act.put, List.setIfInBounds_toArray, List.set_cons_zero, List.set_cons_succ]))
      (apply wpF_step; (· rfl); (· rfl); (· rfl); (· exact Nat.le_of_ble_eq_true rfl); (· exact keeps1 (by (repeat (first | (with_reducible exact List.mem_cons_self) | with_reducible apply List.mem_cons_of_mem)))); (· intro l0 hs0 w0 H0; (first | go_big_quiet_skip | ((with_reducible apply wpQ_loadRH row_ofr); (· rfl); (· rfl); (· exact hs0 _ List.mem_cons_self); (· exact Nat.le_refl _); (· exact ofrA_all ..); (simp only [Act.put, List.setIfInBounds_toArray, List.set_cons_zero, List.set_cons_succ])) | go_big_quiet_step (fail)); (refine wpQuiet_nil ?_); (simp only [Array.getD_eq_getD_getElem?, List.getElem?_toArray, List.getElem?_cons_succ, List.getElem?_cons_zero, Option.getD_some]; rfl)); (simp only [Act.put, List.setIfInBounds_toArray, List.set_cons_zero, List.set_cons_succ]))
      refine wpF_bsR rfl rfl rfl bs_ofr rfl (fun _ => keeps1 (by (repeat (first | (with_reducible exact List.mem_cons_self) | with_reducible apply List.mem_cons_of_mem)))) (fun _ h t ht => List.mem_cons_of_mem _ (h t ht)) fun pq => ?_
      (simp only [Act.put, List.setIfInBounds_toArray, List.set_cons_zero, List.set_cons_succ])
      refine wpF_append slO rfl rfl rfl rfl (.there (.there (.there (.there .here)))) List.mem_cons_self rfl rfl (ofrA_ones _) hn1 hn2 rfl (fun _ => keeps1 (by (repeat (first | (with_reducible exact List.mem_cons_self) | with_reducible apply List.mem_cons_of_mem)))) fun a2 c2 => ?_
      (simp only [Act.put, List.setIfInBounds_toArray, List.set_cons_zero, List.set_cons_succ])
      iterate 2 (apply wpF_step; (· rfl); (· rfl); (· rfl); (· exact Nat.le_of_ble_eq_true rfl); (· exact keeps1 (by (repeat (first | (with_reducible exact List.mem_cons_self) | with_reducible apply List.mem_cons_of_mem)))); (· intro l0 hs0 w0 H0; (first | go_big_quiet_skip | fail | go_big_quiet_step (fail)); (refine wpQuiet_nil ?_); (simp only [Array.getD_eq_getD_getElem?, List.getElem?_toArray, List.getElem?_cons_succ, List.getElem?_cons_zero, Option.getD_some]; rfl)); (simp only [Act.put, List.setIfInBounds_toArray, List.set_cons_zero, List.set_cons_succ]))
      refine wpF_storeC (v := .slice a2 (B.L.length + 1) c2) cell_ofrs rfl rfl rfl rfl rfl ⟨rfl, rfl⟩ (by (repeat (first | (with_reducible exact List.mem_cons_self) | with_reducible apply List.mem_cons_of_mem))) (by rw [bkb_sz]; decide) (bkb_s0 ..) (by (repeat (first | (with_reducible exact Repl.here) | with_reducible apply Repl.there))) rfl (keeps1 (by (repeat (first | (with_reducible exact List.mem_cons_self) | with_reducible apply List.mem_cons_of_mem)))) ?_
      (simp only [Act.put, List.setIfInBounds_toArray, List.set_cons_zero, List.set_cons_succ])
      (refine wpF_nil ?_; clear H; intro _ H)
      go_wp2_with (first
        | go_skip
        | ((with_reducible show wpList _ _ _ (_ :: _) _ _); (with_reducible apply wpl_loadCH); (· first | exact cell_ofrs | exact cell_u64); (· rfl); (· rfl); (· exact H); (· (repeat (first | (with_reducible exact List.mem_cons_self) | with_reducible apply List.mem_cons_of_mem))); (· with_reducible first | exact bkb_g0 .. | exact bkb_g1 ..); (simp only [Act.put, List.setIfInBounds_toArray, List.set_cons_zero, List.set_cons_succ]))
        | (first | ((with_reducible show wpList _ _ _ (_ :: _) _ _); (with_reducible apply wpl_storeIH); (· exact cell_u64); (· rfl); (· rfl); (· rfl); (· exact H); (· (repeat (first | (with_reducible exact List.mem_cons_self) | with_reducible apply List.mem_cons_of_mem))); (· (simp only [bkb_sz, Nat.reduceLT]; done)); (· (with_reducible first | exact bkb_s0 .. | exact bkb_s1 ..)); (· (repeat (first | (with_reducible exact Repl.here) | with_reducible apply Repl.there))); (clear H; intro _ H); (simp only [Act.put, List.setIfInBounds_toArray, List.set_cons_zero, List.set_cons_succ])) | ((with_reducible show wpList _ _ _ (_ :: _) _ _); (with_reducible apply wpl_storeBH); (· exact cell_u64); (· rfl); (· rfl); (· rfl); (· exact H); (· (repeat (first | (with_reducible exact List.mem_cons_self) | with_reducible apply List.mem_cons_of_mem))); (· (simp only [bkb_sz, Nat.reduceLT]; done)); (· (with_reducible first | exact bkb_s0 .. | exact bkb_s1 ..)); (· (repeat (first | (with_reducible exact Repl.here) | with_reducible apply Repl.there))); (clear H; intro _ H); (simp only [Act.put, List.setIfInBounds_toArray, List.set_cons_zero, List.set_cons_succ])) | ((with_reducible show wpList _ _ _ (_ :: _) _ _); (with_reducible apply wpl_storeSH); (· exact cell_u64); (· rfl); (· rfl); (· rfl); (· exact H); (· (repeat (first | (with_reducible exact List.mem_cons_self) | with_reducible apply List.mem_cons_of_mem))); (· (simp only [bkb_sz, Nat.reduceLT]; done)); (· (with_reducible first | exact bkb_s0 .. | exact bkb_s1 ..)); (· (repeat (first | (with_reducible exact Repl.here) | with_reducible apply Repl.there))); (clear H; intro _ H); (simp only [Act.put, List.setIfInBounds_toArray, List.set_cons_zero, List.set_cons_succ])) | ((with_reducible show wpList _ _ _ (_ :: _) _ _); (with_reducible apply wpl_storePH); (· exact cell_u64); (· rfl); (· rfl); (· rfl); (· exact H); (· (repeat (first | (with_reducible exact List.mem_cons_self) | with_reducible apply List.mem_cons_of_mem))); (· (simp only [bkb_sz, Nat.reduceLT]; done)); (· (with_reducible first | exact bkb_s0 .. | exact bkb_s1 ..)); (· (repeat (first | (with_reducible exact Repl.here) | with_reducible apply Repl.there))); (clear H; intro _ H); (simp only [Act.put, List.setIfInBounds_toArray, List.set_cons_zero, List.set_cons_succ])))
        | ((with_reducible show wpList _ _ _ (_ :: _) _ _); (with_reducible apply wpl_loadCH); (· first | exact cell_u64 | exact cell_party | exact cell_cur | exact cell_i64); (· rfl); (· rfl); (· exact H); (· (repeat (first | (with_reducible exact List.mem_cons_self) | with_reducible apply List.mem_cons_of_mem))); (· with_reducible first | exact ofr_g0 .. | exact ofr_g1 .. | exact ofr_g2 .. | exact ofr_g3 .. | exact ofr_g4 ..); (simp only [Act.put, List.setIfInBounds_toArray, List.set_cons_zero, List.set_cons_succ])))
      go_ret2
      refine ⟨.slice a2 (B.L.length + 1) c2, rfl, ?_⟩
      rw [HLL.out]
      show Heap W (BkB p _ _ :: RowT 83 7 _ _ (ofrL _) :: l) _
      rw [HAP.out]
      exact ((H.top2 (.there (.there (.there (.there .here)))) .here).drop (.there (.there .here))).drop (.there (.there .here)) |>.drop (.there (.there .here))
end
end Go.Proofs.Ytacglcpjbepfnaa

/- Parts of slices, read quietly; an append of a part, in a region that draws. -/
namespace Go.Proofs.Ytacglcpjbepfnaa
open Go.RowKit
set_option linter.unusedVariables false
set_option maxRecDepth 100000
set_option maxHeartbeats 1000000
section
variable {ops : Array Oper} {rest : List Oper} {a : Act} {w W : World} {l : List Thing}
theorem wpQ_cutTo {t e size bytes : Nat} {z : Value} (T : SlTy Try.prog t e size bytes z) {dst : Option Tmp} {ty : TypeId} {pos : String} {after : Array Edge} {guard : Option (Nat × Bool)} {x y : Operand} {K : Act → Prop} {H : Heap W l w} (hw : Region.wanted ⟨dst, .slice t x none (some y) none, ty, pos, after, guard⟩ (yielded ops a.tmps) = true)
    {ao : Option Addr} {n c hi : Nat} {v : Int} {k : IntKind} (hx : a.eval x = .slice ao n c) (hy : a.eval y = .int k v) (hv : v = (hi : Int)) (hh : hi ≤ c)
    (h : wpQuiet Try.prog ops (fun w' => ∃ d, w' = H.any d) K rest (a.put dst (.slice ao hi c))) : wpQuiet Try.prog ops (fun w' => ∃ d, w' = H.any d) K (⟨dst, .slice t x none (some y) none, ty, pos, after, guard⟩ :: rest) a := by
  subst hv
  refine BigFrame.wpQuiet_want hw fun K hK => ⟨_, ?_, hK _ h⟩
  rintro _ ⟨d, rfl⟩
  have hr := run_cutTo (P := Try.prog) T ao n c hi k hh (H.any d)
  have hs : (Instr.sliceAt t (.slice ao n c) none (some (.int k (hi : Int))) none).run Try.prog (H.any d) = .ok (.slice ao hi c) (H.any d) := by
    unfold Instr.sliceAt
    rw [Sem.run_bind, run_underlying T.und]
    simp only [Result.andThen_ok]
    exact hr
  unfold Oper.quietAt execOp
  simp only [hx, Option.map_some, hy, Option.map_none, Sem.run_bind, hs]
  exact ⟨rfl, rfl⟩
end
section
variable {W : World} {G : List Thing → Prop} {loud : List Nat} {K : List Thing → Act → Prop} {l r : List Thing} {a : Act} {lo : List Oper} {ks : List Nat} {k : Nat} {dst : Option Tmp} {ty : TypeId} {pos : String} {after : Array Edge}
end
end Go.Proofs.Ytacglcpjbepfnaa

/- books: slices.Delete of offers. -/
namespace Go.Proofs.Ytacglcpjbepfnaa
open Go.RowKit
set_option linter.unusedSimpArgs false
set_option linter.unusedVariables false
set_option maxRecDepth 100000
theorem ofrL_take (L : List Ofr) (i : Nat) (h : i ≤ L.length) : (ofrL L).take (i * 7) = ofrL (L.take i) := by
  have e : ofrL L = ofrL (L.take i) ++ ofrL (L.drop i) := by rw [← ofrL_app, List.take_append_drop]
  have hl : (ofrL (L.take i)).length = i * 7 := by rw [ofrL_len, List.length_take, Nat.min_eq_left h]
  rw [e, ← hl]
  exact List.take_left
theorem ofrL_drop (L : List Ofr) (i : Nat) (h : i ≤ L.length) : (ofrL L).drop (i * 7) = ofrL (L.drop i) := by
  have e : ofrL L = ofrL (L.take i) ++ ofrL (L.drop i) := by rw [← ofrL_app, List.take_append_drop]
  have hl : (ofrL (L.take i)).length = i * 7 := by rw [ofrL_len, List.length_take, Nat.min_eq_left h]
  rw [e, ← hl]
  exact List.drop_left
/-- A row that is not empty, as its block. -/
theorem Heap.rowCelO {W w : World} {l : List Thing} {e size n : Nat} {v : Value} {xs : List Value} (H : Heap W (RowT e size v n xs :: l) w) (hn : 0 < n) :
    ∃ g m c, v = .slice (some ⟨g, 0, none⟩) n m ∧ n ≤ m ∧ m ≤ maxLen ∧ c.size = m * size ∧ c.toList.take (n * size) = xs ∧ Heap W (Cel g c e :: l) w := by
  obtain ⟨h1, ⟨_, h2⟩ | ⟨g, m, c, hv, _, hg, hnm, hm, hs, ht⟩⟩ := H.ok _ List.mem_cons_self
  · omega
  · refine ⟨g, m, c, hv, hnm, hm, hs, ht, H.head (World.grownBy.refl _ _) hg (.inl ?_)⟩
    subst hv
    rfl
section
variable {W : World} {G : List Thing → Prop} {loud : List Nat} {K : List Thing → Act → Prop} {l r : List Thing} {a : Act} {ops : Array Oper} {rest : List Oper} {k : Nat} {dst : Option Tmp} {ty : TypeId} {pos : String} {after : Array Edge}
/-- append(s[:i], s[j:]...), in one block. -/
theorem wpW_appendSelf {t e size bytes : Nat} {z : Value} (T : SlTy Try.prog t e size bytes z) {s x : Operand} (hk : loud.contains k = true)
    {g off n m k2 c2 q : Nat} {cur cur1 : Array Value} {news : List Value} (hs : a.eval s = .slice (some ⟨g, 0, none⟩) n m) (hx : a.eval x = .slice (some ⟨g, off, none⟩) k2 c2) (pl : Pull l (Cel g cur e) r)
    (hrd : ∀ w', Heap W l w' → Rd w' (some ⟨g, off, none⟩) news) (hl : news.length = k2 * size) (h1 : OneCells news) (hroom : n + k2 ≤ m) (hfit : n * size + news.length ≤ cur.size) (hq : n + k2 = q)
    (hcur : (cur.toList.take (n * size) ++ news ++ cur.toList.drop (n * size + news.length)).toArray = cur1) (hG : G (Cel g cur1 e :: r))
    (h : wpW Try.prog ops W G loud K rest (k + 1) (Cel g cur1 e :: r) (a.put dst (.slice (some ⟨g, 0, none⟩) q m))) :
    wpW Try.prog ops W G loud K (⟨dst, .call { callee := .builtin .append, args := #[s, x], argTypes := #[t, t] }, ty, pos, after, none⟩ :: rest) k l a := by
  subst hq hcur
  refine wpW_loud hk ⟨rfl, fun w H => ?_⟩
  have H2 := H.pull pl
  have hg := H2.blk List.mem_cons_self
  have hr0 := hrd w H
  obtain ⟨i, hi, hz, hsi, hbi⟩ := T.inf
  subst hsi
  have hr := run_append_roomO (P := Try.prog) w t ty e i T.und hi g 0 n m cur hg ⟨g, off, none⟩ k2 c2 news hl hr0.addr h1 hroom (by omega)
  rw [Nat.zero_add] at hr
  have H3 : Heap W (Cel g (cur.toList.take (n * i.size) ++ news ++ cur.toList.drop (n * i.size + news.length)).toArray e :: r) (w.setRow g (cur.toList.take (n * i.size) ++ news ++ cur.toList.drop (n * i.size + news.length)).toArray) :=
    H2.head ⟨rfl, rfl, rfl, by simp, fun k _ hk => setRow_other w g k _ (fun e => hk (by show some k = some g; rw [e]))⟩ (setRow_heap w g cur _ e _ hg) (.inl rfl)
  refine ⟨_, _, _, .inl ?_, H3, hG, h⟩
  unfold execOp
  simp only [resolve, invoke, builtin, Sem.run_bind, Sem.run_pure, Result.andThen_ok, List.map_toArray, List.map_cons, List.map_nil, hs, hx, hr]
end
section
variable {ops : Array Oper} {rest : List Oper} {a : Act} {w W : World} {l : List Thing}
theorem wpQ_cutAny {t e size bytes : Nat} {z : Value} (T : SlTy Try.prog t e size bytes z) {dst : Option Tmp} {ty : TypeId} {pos : String} {after : Array Edge} {guard : Option (Nat × Bool)} {x y : Operand} {K : Act → Prop} {H : Heap W l w} (hw : Region.wanted ⟨dst, .slice t x (some y) none none, ty, pos, after, guard⟩ (yielded ops a.tmps) = true)
    {g n c lo off : Nat} {v : Int} {k : IntKind} (hx : a.eval x = .slice (some ⟨g, 0, none⟩) n c) (hy : a.eval y = .int k v) (hv : v = (lo : Int)) (hh : lo ≤ n) (ho : cutA (some ⟨g, 0, none⟩) c lo size = some ⟨g, off, none⟩)
    (h : wpQuiet Try.prog ops (fun w' => ∃ d, w' = H.any d) K rest (a.put dst (.slice (some ⟨g, off, none⟩) (n - lo) (c - lo)))) : wpQuiet Try.prog ops (fun w' => ∃ d, w' = H.any d) K (⟨dst, .slice t x (some y) none none, ty, pos, after, guard⟩ :: rest) a := by
  subst hv
  refine BigFrame.wpQuiet_want hw fun K hK => ⟨_, ?_, hK _ h⟩
  rintro _ ⟨d, rfl⟩
  have hr := run_cutFrom (P := Try.prog) T (some ⟨g, 0, none⟩) n c lo k hh (H.any d)
  rw [ho] at hr
  have hs : (Instr.sliceAt t (.slice (some ⟨g, 0, none⟩) n c) (some (.int k (lo : Int))) none none).run Try.prog (H.any d) = .ok (.slice (some ⟨g, off, none⟩) (n - lo) (c - lo)) (H.any d) := by
    unfold Instr.sliceAt
    rw [Sem.run_bind, run_underlying T.und]
    simp only [Result.andThen_ok]
    exact hr
  unfold Oper.quietAt execOp
  simp only [hx, Option.map_some, hy, Option.map_none, Sem.run_bind, hs]
  exact ⟨rfl, rfl⟩
end
theorem cut_some (g c lo : Nat) : ∃ off, cutA (some ⟨g, 0, none⟩) c lo 7 = some ⟨g, off, none⟩ := by
  unfold Proofs.Ytacglcpjbepfnaa.cutA
  split
  · exact ⟨0, rfl⟩
  · exact ⟨lo * 7, by simp [Addr.add]; exact fun h => h.symm⟩
section
variable {W w : World} {l : List Thing}
set_option maxHeartbeats 8000000
theorem deleteO_H {v : Value} {n i : Nat} {L : List Ofr} (hl : L.length = n) (hi : i < n) (hn : n ≤ 1000000) (H : Heap W (OfT v n L :: l) w) :
    Calls Try.prog 111 #[v, .int .i64 (i : Int), .int .i64 ((i : Int) + 1)] w fun e w' => ∃ v', e = .returned v' ∧ Heap W (OfT v' (n - 1) (L.eraseIdx i) :: l) w' := by
  obtain ⟨g, c, cur, rfl, hc1, hc2, hc3, hc4, Hc⟩ := H.rowCelO (by omega)
  clear H
  have H := Hc
  clear Hc
  have hc2' : c ≤ 9223372036854775807 := by unfold maxLen at hc2; omega
  obtain ⟨off, hoff⟩ := cut_some g c (i + 1)
  have hN := Lib.hid (show ((cur.toList.drop ((i + 1) * 7)).take ((n - (i + 1)) * 7)) = ofrL (L.drop (i + 1)) by
    rw [← ofrL_drop L (i + 1) (by omega), ← hc4, List.drop_take]
    congr 1
    rw [← Nat.sub_mul])
  have hR := Lib.hid (show ∀ w', Heap W (Cel g cur 83 :: l) w' → Rd w' (some ⟨g, off, none⟩) (ofrL (L.drop (i + 1))) from fun w' H' => by
    have := (H'.celRd List.mem_cons_self).cutA c (i + 1) n 7 hc1
    rw [hoff, hN.out] at this
    exact this)
  have hnl := Lib.hid (show (ofrL (L.drop (i + 1))).length = (n - (i + 1)) * 7 by rw [ofrL_len, List.length_drop, hl])
  have hfit := Lib.hid (show i * 7 + (ofrL (L.drop (i + 1))).length ≤ cur.size by
    rw [hnl.out, hc3]
    have : (n - (i + 1)) * 7 + i * 7 ≤ c * 7 := by omega
    omega)
  have h0 : ((i : Int) == (i : Int) + 1) = false := by simp; omega
  have hcast : (i : Int) + 1 = ((i + 1 : Nat) : Int) := by omega
  obtain ⟨n', hn'⟩ : ∃ n', n' + 1 = n := ⟨n - 1, by omega⟩
  obtain ⟨cur1, e1⟩ : ∃ x : Array Value, (cur.toList.take (i * 7) ++ ofrL (L.drop (i + 1)) ++ cur.toList.drop (i * 7 + (ofrL (L.drop (i + 1))).length)).toArray = x := ⟨_, rfl⟩
  have hA : cur.toList.take (i * 7) = ofrL (L.take i) := by
    rw [← ofrL_take L i (by omega), ← hc4, List.take_take, Nat.min_eq_left (by omega)]
  have hs1 : cur1.size = c * 7 := by
    have h1 := hfit.out
    rw [← e1]
    simp only [List.size_toArray, List.length_append, List.length_take, List.length_drop, Array.length_toList]
    omega
  have ht1 : cur1.toList.take (n' * 7) = ofrL (L.eraseIdx i) := by
    rw [← e1, List.eraseIdx_eq_take_drop_succ, hA, ofrL_app]
    have h2 : (ofrL (L.take i) ++ ofrL (L.drop (i + 1))).length = n' * 7 := by
      rw [List.length_append, hnl.out, ofrL_len, List.length_take]
      omega
    rw [← h2]
    exact List.take_left
  have hoff2 : cutA (some ⟨g, 0, none⟩) c n' 7 = some ⟨g, n' * 7, none⟩ := by
    unfold Proofs.Ytacglcpjbepfnaa.cutA
    rw [if_neg (by omega)]
    simp [Addr.add]
    exact fun h => h.symm
  have hz1 : ∀ u ∈ (Value.agg (ofrA ofrZ)).cells, u.oneCell' = true := by
    intro u hu
    simp [Value.cells, ofrA, ofrV] at hu
    rcases hu with rfl | rfl | rfl <;> rfl
  have hq : i + (n - (i + 1)) = n' := by omega
  have hq2 : n - n' = 1 := by omega
  have hq3 : n' ≤ n := by omega
  have hin : i + 1 ≤ n := by omega
  have hic : i ≤ c := by omega
  have hroom : i + (n - (i + 1)) ≤ c := by omega
  have hfit2 : n' * 7 + 1 * 7 ≤ cur1.size := by rw [hs1]; omega
  have HL := Lib.hid hl
  have HC := Lib.hid (⟨hc3, hc4, e1, hA, hs1, ht1⟩ : _ ∧ _ ∧ _ ∧ _ ∧ _ ∧ _)
  have HN := Lib.hid (⟨hn', hq, hq2, hroom⟩ : _ ∧ _ ∧ _ ∧ _)
  have HCA := Lib.hid hcast
  have HO2 := Lib.hid hoff2
  have HOF := Lib.hid hoff
  clear hl hc3 hc4 e1 hA hs1 ht1 hn' hq hq2 hroom hcast hoff2 hoff
  go_enter Try.func111, Try.ntmps111
  go_wp2_with (first | go_skip)
  refine wp_region_W [6] (fun _ => True) H trivial (by kernel_rfl) (by kernel_rfl) ?_
  iterate 6 (apply wpW_step; (· rfl); (· rfl); (· exact Nat.le_of_ble_eq_true rfl); (· intro l0 _ w0 H0; (first | go_big_quiet_skip | ((with_reducible apply wpQ_cutTo slO); (· rfl); (· rfl); (· rfl); (· rfl); (· exact hic); (simp only [Act.put, List.setIfInBounds_toArray, List.set_cons_zero, List.set_cons_succ])) | ((with_reducible apply wpQ_cutAny slO); (· rfl); (· rfl); (· rfl); (· exact HCA.out); (· exact hin); (· exact HOF.out); (simp only [Act.put, List.setIfInBounds_toArray, List.set_cons_zero, List.set_cons_succ])) | go_big_quiet_step (fail)); (refine wpQuiet_nil ?_); (simp only [Array.getD_eq_getD_getElem?, List.getElem?_toArray, List.getElem?_cons_succ, List.getElem?_cons_zero, Option.getD_some]; rfl)); (simp only [Act.put, List.setIfInBounds_toArray, List.set_cons_zero, List.set_cons_succ]))
  refine wpW_appendSelf slO rfl rfl rfl .here hR.out hnl.out (ofrL_ones _) HN.out.2.2.2 hfit.out HN.out.2.1 HC.out.2.2.1 trivial ?_
  (simp only [Act.put, List.setIfInBounds_toArray, List.set_cons_zero, List.set_cons_succ])
  (apply wpW_step; (· rfl); (· rfl); (· exact Nat.le_of_ble_eq_true rfl); (· intro l0 _ w0 H0; (first | go_big_quiet_skip | fail | go_big_quiet_step (fail)); (refine wpQuiet_nil ?_); (simp only [Array.getD_eq_getD_getElem?, List.getElem?_toArray, List.getElem?_cons_succ, List.getElem?_cons_zero, Option.getD_some]; rfl)); (simp only [Act.put, List.setIfInBounds_toArray, List.set_cons_zero, List.set_cons_succ]))
  (refine wpW_nil ?_; clear H; intro _ H)
  go_wp2_with (first
    | go_skip
    | ((with_reducible show wpList _ _ _ (_ :: _) _ _); (with_reducible apply wpl_cutBoth slO); (· rfl); (· rfl); (· rfl); (· rfl); (· exact hq3); (· exact hc1); (· exact HO2.out); (· exact HN.out.2.2.1); (· rfl); (simp only [Act.put, List.setIfInBounds_toArray, List.set_cons_zero, List.set_cons_succ]))
    | ((with_reducible show wpList _ _ _ (_ :: _) _ _); (with_reducible apply wpl_clearC slO); (· exact hz1); (· rfl); (· rfl); (· rfl); (· exact H); (· exact hfit2); (clear H; intro c1 _ hk1 hk2 H); (simp only [Act.put, List.setIfInBounds_toArray, List.set_cons_zero, List.set_cons_succ])))
  go_ret
  obtain ⟨hc3, hc4, e1, hA, hs1, ht1⟩ := HC.out
  obtain ⟨hn', hq, _, _⟩ := HN.out
  refine ⟨_, rfl, ?_⟩
  have H2 := H.celRowA (n := n') (m := c) (size := 7) (by rw [hk1, hs1]) (by omega) hc2
  rw [hk2, ht1] at H2
  rw [show n - 1 = n' by omega]
  exact H2
end
end Go.Proofs.Ytacglcpjbepfnaa

/- books: Cancel. -/
namespace Go.Proofs.Ytacglcpjbepfnaa
open Go.RowKit
set_option linter.unusedSimpArgs false
set_option linter.unusedVariables false
set_option maxRecDepth 100000
theorem setO_none {L : List Ofr} {s v : Int} (h : ∀ o ∈ L, o.sq ≠ s) (hp : ∀ o ∈ L, 0 < o.le) : setO L s v = L := by
  unfold setO
  have e : (L.map fun o => if o.sq = s then { o with le := v } else o) = L := by
    conv => rhs; rw [← List.map_id L]
    exact List.map_congr_left fun o ho => if_neg (h o ho)
  rw [e]
  exact List.filter_eq_self.2 fun o ho => by simpa using hp o ho
theorem setO_zero : ∀ {L : List Ofr} {s : Int} {o : Ofr}, L.Pairwise (fun x y => x.sq < y.sq) → (∀ o ∈ L, 0 < o.le) → L[iO L s]? = some o → setO L s 0 = L.eraseIdx (iO L s)
  | [], s, o, _, _, h => by simp at h
  | a :: L, s, o, hw, hp, h => by
    rw [List.pairwise_cons] at hw
    by_cases e : a.sq = s
    · have hi : iO (a :: L) s = 0 := by simp [iO, List.findIdx_cons, e]
      rw [hi, List.eraseIdx_zero, List.tail_cons]
      have h2 := setO_none (L := L) (s := s) (v := 0) (fun x hx => by have := hw.1 x hx; omega) (fun x hx => hp x (List.mem_cons_of_mem _ hx))
      unfold setO at h2 ⊢
      rw [List.map_cons, if_pos e, List.filter_cons_of_neg (by simp), h2]
    · have hi : iO (a :: L) s = iO L s + 1 := by simp [iO, List.findIdx_cons, beq_eq_false_iff_ne.2 e]
      rw [hi] at h ⊢
      rw [List.getElem?_cons_succ] at h
      rw [List.eraseIdx_cons_succ, ← setO_zero hw.2 (fun x hx => hp x (List.mem_cons_of_mem _ hx)) h]
      have := hp a List.mem_cons_self
      unfold setO
      rw [List.map_cons, if_neg e, List.filter_cons_of_pos (by simpa using this)]
theorem setO_pos : ∀ {L : List Ofr} {s v : Int} {o : Ofr}, 0 < v → L.Pairwise (fun x y => x.sq < y.sq) → (∀ o ∈ L, 0 < o.le) → L[iO L s]? = some o → setO L s v = L.set (iO L s) { o with le := v }
  | [], s, v, o, _, _, _, h => by simp at h
  | a :: L, s, v, o, hv, hw, hp, h => by
    rw [List.pairwise_cons] at hw
    by_cases e : a.sq = s
    · have hi : iO (a :: L) s = 0 := by simp [iO, List.findIdx_cons, e]
      rw [hi] at h ⊢
      rw [List.getElem?_cons_zero] at h
      cases h
      rw [List.set_cons_zero]
      have h2 := setO_none (L := L) (s := s) (v := v) (fun x hx => by have := hw.1 x hx; omega) (fun x hx => hp x (List.mem_cons_of_mem _ hx))
      unfold setO at h2 ⊢
      rw [List.map_cons, if_pos e, List.filter_cons_of_pos (by simpa using hv), h2]
    · have hi : iO (a :: L) s = iO L s + 1 := by simp [iO, List.findIdx_cons, beq_eq_false_iff_ne.2 e]
      rw [hi] at h ⊢
      rw [List.getElem?_cons_succ] at h
      rw [List.set_cons_succ, ← setO_pos hv hw.2 (fun x hx => hp x (List.mem_cons_of_mem _ hx)) h]
      have := hp a List.mem_cons_self
      unfold setO
      rw [List.map_cons, if_neg e, List.filter_cons_of_pos (by simpa using this)]
theorem Bok.Good.pos {B : Bok} (G : B.Good) : ∀ o ∈ B.L, 0 < o.le := fun o ho => by have := (mayO_iff.1 (G.ok o ho).1).2.2.2.2.1; omega
theorem rd_ofr {w : World} {g o k j : Nat} {L : List Ofr} {y : Ofr} {v : Value} (R : Rd w (some ⟨g, o, none⟩) (ofrL L)) (h : L[k]? = some y) (hj : (ofrV y)[j]? = some v) : w.cell? ⟨g, o + k * 7 + j, none⟩ = some v := by
  obtain ⟨hk, hx⟩ := List.getElem?_eq_some_iff.1 h
  have h7 : j < 7 := by
    have := (List.getElem?_eq_some_iff.1 hj).1
    simpa [ofrV] using this
  obtain ⟨b, o', he, hc⟩ := R (k * 7 + j) (by rw [ofrL_len]; omega)
  cases he
  rw [Nat.add_assoc, hc]
  have h2 := ofrL_at L k hk
  rw [hx] at h2
  rw [← h2, List.getElem?_take, if_pos h7, List.getElem?_drop] at hj
  rw [← hj, List.getElem?_eq_getElem (by rw [ofrL_len]; omega)]
section
variable {W w : World} {l : List Thing}
set_option maxHeartbeats 8000000
theorem cancel_H {p : Nat} {v : Value} {B : Bok} (ow s : Int) (G : B.Good) (H : Heap W (BkB p v B.nx :: OfT v B.L.length B.L :: l) w) :
    Calls Try.prog 59 #[.pointer (some ⟨p, 0, none⟩), .int .u8 ow, .int .u64 s] w fun e w' =>
      ∃ v', e = .returned (.tuple #[.int .i64 (cancelN B ow s), .int .i64 (cancelE B ow s)]) ∧ Heap W (BkB p v' (cancelS B ow s).nx :: OfT v' (cancelS B ow s).L.length (cancelS B ow s).L :: l) w' := by
  obtain ⟨va, c, rfl, hc1, hc2⟩ := RowT.form0 (H.ok _ (List.mem_cons_of_mem _ List.mem_cons_self))
  have hfew := G.few
  have hnx1 := G.nx.1
  have T := bthere_yes (W := W) (l := BkB p (.slice va B.L.length c) B.nx :: OfT (.slice va B.L.length c) B.L.length B.L :: l) List.mem_cons_self (show 0 < B.nx by omega)
  have A := at_H (W := W) (l := BkB p (.slice va B.L.length c) B.nx :: OfT (.slice va B.L.length c) B.L.length B.L :: l) s List.mem_cons_self (List.mem_cons_of_mem _ List.mem_cons_self) rfl (by omega)
  cases hf : findO B.L s with
  | none =>
    have e1 : cancelE B ow s = 7 := by unfold cancelE; rw [hf]
    have e2 : cancelN B ow s = 0 := by unfold cancelN; rw [hf]
    have e3 : cancelS B ow s = B := by unfold cancelS; rw [e1]; rfl
    rw [e1, e2, e3]
    rw [idxO_none hf] at A
    clear e1 e2 e3 hf
    generalize B.L.length = n at *
    go_enter Try.func59, Try.ntmps59
    go_wp2_with (first | go_skip | ((with_reducible refine AnsH.call (by assumption) H ?_); clear H; intro _ H))
    go_ret2
    exact ⟨_, rfl, H⟩
  | some o =>
    obtain ⟨hi, hg, hlt⟩ := idxO_some hf
    rw [hi] at A
    have Rw := H.rowRd (List.mem_cons_of_mem _ List.mem_cons_self)
    obtain ⟨ba, oa, rfl, _⟩ := Rw.lt (by rw [ofrL_len]; omega)
    by_cases ho : o.ow = ow
    · have d1 : (o.ow == ow) = true := by simpa using ho
      have d2 : (o.ow != ow) = false := by simp [ho]
      have e1 : cancelE B ow s = 0 := by unfold cancelE; rw [hf]; simp [ho]
      have e2 : cancelN B ow s = o.le := by unfold cancelN; rw [hf]; simp [ho]
      have e3 : cancelS B ow s = ⟨B.L.eraseIdx (iO B.L s), B.nx⟩ := by unfold cancelS; rw [if_pos e1, setO_zero G.ord G.pos hg]
      rw [e1, e2, e3]
      have HE := Lib.hid (show (B.L.eraseIdx (iO B.L s)).length = B.L.length - 1 by rw [List.length_eraseIdx, if_pos hlt])
      have HF := Lib.hid (⟨hf, hi, hg, e1, e2, e3⟩ : _ ∧ _ ∧ _ ∧ _ ∧ _ ∧ _)
      clear hf hi hg e1 e2 e3 ho Rw
      generalize iO B.L s = k at *
      generalize hn : B.L.length = n at *
      go_enter Try.func59, Try.ntmps59
      go_wp2_with (first
        | go_skip
        | ((with_reducible refine AnsH.call (by assumption) H ?_); clear H; intro _ H)
        | ((with_reducible show wpList _ _ _ (_ :: _) _ _); (with_reducible apply wpl_loadCH); (· exact cell_ofrs); (· rfl); (· rfl); (· exact H); (· exact List.mem_cons_self); (· exact bkb_g0 ..); (simp only [Act.put, List.setIfInBounds_toArray, List.set_cons_zero, List.set_cons_succ]))
        | ((with_reducible show wpList _ _ _ (_ :: _) _ _); (with_reducible apply wpl_loadCell cell_party); (· rfl); (· rfl); (· exact rd_ofr (H.rowRd (List.mem_cons_of_mem _ List.mem_cons_self)) HF.out.2.2.1 (j := 1) rfl); (simp only [Act.put, List.setIfInBounds_toArray, List.set_cons_zero, List.set_cons_succ]))
        | ((with_reducible show wpList _ _ _ (_ :: _) _ _); (with_reducible apply wpl_loadCell cell_i64); (· rfl); (· rfl); (· exact rd_ofr (H.rowRd (List.mem_cons_of_mem _ List.mem_cons_self)) HF.out.2.2.1 (j := 4) rfl); (simp only [Act.put, List.setIfInBounds_toArray, List.set_cons_zero, List.set_cons_succ])))
      refine (deleteO_H hn hlt (by omega) (H.perm (.swap _ _ _))).mono ?_
      clear H
      rintro e w2 ⟨v2, rfl, H⟩
      obtain ⟨a2, c2, rfl, hd1, hd2⟩ := RowT.form0 (H.ok _ List.mem_cons_self)
      go_wp2_with (first | go_skip | (first | ((with_reducible show wpList _ _ _ (_ :: _) _ _); (with_reducible apply wpl_storeIH); (· exact cell_ofrs); (· rfl); (· rfl); (· rfl); (· exact H); (· (repeat (first | (with_reducible exact List.mem_cons_self) | with_reducible apply List.mem_cons_of_mem))); (· (simp only [bkb_sz, Nat.reduceLT]; done)); (· (with_reducible first | exact bkb_s0 .. | exact bkb_s1 ..)); (· (repeat (first | (with_reducible exact Repl.here) | with_reducible apply Repl.there))); (clear H; intro _ H); (simp only [Act.put, List.setIfInBounds_toArray, List.set_cons_zero, List.set_cons_succ])) | ((with_reducible show wpList _ _ _ (_ :: _) _ _); (with_reducible apply wpl_storeBH); (· exact cell_ofrs); (· rfl); (· rfl); (· rfl); (· exact H); (· (repeat (first | (with_reducible exact List.mem_cons_self) | with_reducible apply List.mem_cons_of_mem))); (· (simp only [bkb_sz, Nat.reduceLT]; done)); (· (with_reducible first | exact bkb_s0 .. | exact bkb_s1 ..)); (· (repeat (first | (with_reducible exact Repl.here) | with_reducible apply Repl.there))); (clear H; intro _ H); (simp only [Act.put, List.setIfInBounds_toArray, List.set_cons_zero, List.set_cons_succ])) | ((with_reducible show wpList _ _ _ (_ :: _) _ _); (with_reducible apply wpl_storeSH); (· exact cell_ofrs); (· rfl); (· rfl); (· rfl); (· exact H); (· (repeat (first | (with_reducible exact List.mem_cons_self) | with_reducible apply List.mem_cons_of_mem))); (· (simp only [bkb_sz, Nat.reduceLT]; done)); (· (with_reducible first | exact bkb_s0 .. | exact bkb_s1 ..)); (· (repeat (first | (with_reducible exact Repl.here) | with_reducible apply Repl.there))); (clear H; intro _ H); (simp only [Act.put, List.setIfInBounds_toArray, List.set_cons_zero, List.set_cons_succ])) | ((with_reducible show wpList _ _ _ (_ :: _) _ _); (with_reducible apply wpl_storePH); (· exact cell_ofrs); (· rfl); (· rfl); (· rfl); (· exact H); (· (repeat (first | (with_reducible exact List.mem_cons_self) | with_reducible apply List.mem_cons_of_mem))); (· (simp only [bkb_sz, Nat.reduceLT]; done)); (· (with_reducible first | exact bkb_s0 .. | exact bkb_s1 ..)); (· (repeat (first | (with_reducible exact Repl.here) | with_reducible apply Repl.there))); (clear H; intro _ H); (simp only [Act.put, List.setIfInBounds_toArray, List.set_cons_zero, List.set_cons_succ]))))
      go_ret2
      refine ⟨.slice a2 (n - 1) c2, rfl, ?_⟩
      show Heap W (BkB p _ _ :: OfT _ (B.L.eraseIdx k).length _ :: l) _
      rw [HE.out]
      exact H.perm (.swap _ _ _)
    · have d1 : (o.ow == ow) = false := by simpa using ho
      have d2 : (o.ow != ow) = true := by simp [ho]
      have e1 : cancelE B ow s = 15 := by unfold cancelE; rw [hf]; simp [ho]
      have e2 : cancelN B ow s = 0 := by unfold cancelN; rw [hf]; simp [ho]
      have e3 : cancelS B ow s = B := by unfold cancelS; rw [e1]; rfl
      rw [e1, e2, e3]
      have HF := Lib.hid (⟨hf, hi, hg, e1, e2, e3⟩ : _ ∧ _ ∧ _ ∧ _ ∧ _ ∧ _)
      clear hf hi hg e1 e2 e3 ho Rw
      generalize iO B.L s = k at *
      generalize hn : B.L.length = n at *
      go_enter Try.func59, Try.ntmps59
      go_wp2_with (first
        | go_skip
        | ((with_reducible refine AnsH.call (by assumption) H ?_); clear H; intro _ H)
        | ((with_reducible show wpList _ _ _ (_ :: _) _ _); (with_reducible apply wpl_loadCH); (· exact cell_ofrs); (· rfl); (· rfl); (· exact H); (· exact List.mem_cons_self); (· exact bkb_g0 ..); (simp only [Act.put, List.setIfInBounds_toArray, List.set_cons_zero, List.set_cons_succ]))
        | ((with_reducible show wpList _ _ _ (_ :: _) _ _); (with_reducible apply wpl_loadCell cell_party); (· rfl); (· rfl); (· exact rd_ofr (H.rowRd (List.mem_cons_of_mem _ List.mem_cons_self)) HF.out.2.2.1 (j := 1) rfl); (simp only [Act.put, List.setIfInBounds_toArray, List.set_cons_zero, List.set_cons_succ]))
        | ((with_reducible show wpList _ _ _ (_ :: _) _ _); (with_reducible apply wpl_loadCell cell_i64); (· rfl); (· rfl); (· exact rd_ofr (H.rowRd (List.mem_cons_of_mem _ List.mem_cons_self)) HF.out.2.2.1 (j := 4) rfl); (simp only [Act.put, List.setIfInBounds_toArray, List.set_cons_zero, List.set_cons_succ])))
      go_ret2
      exact ⟨_, rfl, H⟩
end
end Go.Proofs.Ytacglcpjbepfnaa

/- books: Take. -/
namespace Go.Proofs.Ytacglcpjbepfnaa
open Go.RowKit
set_option linter.unusedSimpArgs false
set_option linter.unusedVariables false
set_option maxRecDepth 100000
theorem ofrL_set : ∀ {L : List Ofr} {k : Nat} {o : Ofr} (x : Int), L[k]? = some o → (ofrL L).set (k * 7 + 4) (.int .i64 x) = ofrL (L.set k { o with le := x })
  | [], k, o, x, h => by simp at h
  | a :: L, 0, o, x, h => by
    rw [List.getElem?_cons_zero] at h
    cases h
    simp [ofrL, ofrV]
  | a :: L, k + 1, o, x, h => by
    rw [List.getElem?_cons_succ] at h
    have ih := ofrL_set x h
    unfold ofrL at ih ⊢
    rw [List.set_cons_succ, List.flatMap_cons, List.flatMap_cons, ← ih, List.set_append_right _ _ (by simp [ofrV]; omega)]
    congr 2
    simp [ofrV]
    omega
theorem cur_set {cur : Array Value} {L : List Ofr} {n k : Nat} {o : Ofr} (x : Int) (h : cur.toList.take (n * 7) = ofrL L) (hg : L[k]? = some o) : (cur.setIfInBounds (k * 7 + 4) (.int .i64 x)).toList.take (n * 7) = ofrL (L.set k { o with le := x }) := by
  rw [Array.toList_setIfInBounds, List.take_set, h, ofrL_set x hg]
theorem OfT.of {W w : World} {l : List Thing} {g n m : Nat} {c : Array Value} {L : List Ofr} (H : Heap W (Cel g c 83 :: l) w) (hc : c.size = m * 7) (hn : n ≤ m) (hm : m ≤ maxLen) (h : c.toList.take (n * 7) = ofrL L) : Heap W (OfT (.slice (some ⟨g, 0, none⟩) n m) n L :: l) w := by
  have := H.celRowA (size := 7) hc hn hm
  rw [h] at this
  exact this
theorem rd_ofr0 {w : World} {g k j : Nat} {L : List Ofr} {y : Ofr} {v : Value} (R : Rd w (some ⟨g, 0, none⟩) (ofrL L)) (h : L[k]? = some y) (hj : (ofrV y)[j]? = some v) : w.cell? ⟨g, k * 7 + j, none⟩ = some v := by
  have := rd_ofr R h hj
  rwa [Nat.zero_add] at this
section
variable {W w : World} {l : List Thing}
set_option maxHeartbeats 8000000
theorem take_zero {p : Nat} {v : Value} (s n : Int) (m : BkB p v 0 ∈ l) : AnsH W l 60 #[.pointer (some ⟨p, 0, none⟩), .int .u64 s, .int .i64 n] (.int .i64 2) := by
  intro w H
  have T := bthere_zero (W := W) m
  go_enter Try.func60, Try.ntmps60
  go_wp2_with (first | go_skip | ((with_reducible refine AnsH.call (by assumption) H ?_); clear H; intro _ H))
  go_ret
  exact ⟨rfl, H⟩
theorem take_H {p : Nat} {v : Value} {B : Bok} (s x : Int) (hx : -9223372036854775808 ≤ x ∧ x ≤ 9223372036854775807) (G : B.Good) (H : Heap W (BkB p v B.nx :: OfT v B.L.length B.L :: l) w) :
    Calls Try.prog 60 #[.pointer (some ⟨p, 0, none⟩), .int .u64 s, .int .i64 x] w fun e w' =>
      ∃ v', e = .returned (.int .i64 (takeE B s x)) ∧ Heap W (BkB p v' (takeS B s x).nx :: OfT v' (takeS B s x).L.length (takeS B s x).L :: l) w' := by
  obtain ⟨va, c, rfl, hc1, hc2⟩ := RowT.form0 (H.ok _ (List.mem_cons_of_mem _ List.mem_cons_self))
  have hfew := G.few
  have hnx1 := G.nx.1
  have T := bthere_yes (W := W) (l := BkB p (.slice va B.L.length c) B.nx :: OfT (.slice va B.L.length c) B.L.length B.L :: l) List.mem_cons_self (show 0 < B.nx by omega)
  have A := at_H (W := W) (l := BkB p (.slice va B.L.length c) B.nx :: OfT (.slice va B.L.length c) B.L.length B.L :: l) s List.mem_cons_self (List.mem_cons_of_mem _ List.mem_cons_self) rfl (by omega)
  cases hf : findO B.L s with
  | none =>
    have e1 : takeE B s x = 7 := by unfold takeE; rw [hf]
    have e3 : takeS B s x = B := by unfold takeS; rw [hf]
    rw [e1, e3]
    rw [idxO_none hf] at A
    clear e1 e3 hf
    generalize B.L.length = n at *
    go_enter Try.func60, Try.ntmps60
    go_wp2_with (first | go_skip | ((with_reducible refine AnsH.call (by assumption) H ?_); clear H; intro _ H))
    go_ret
    exact ⟨_, rfl, H⟩
  | some o =>
    obtain ⟨hi, hg, hlt⟩ := idxO_some hf
    rw [hi] at A
    have hmem := (findO_some hf).1
    have hle := (mayO_iff.1 (G.ok o hmem).1).2.2.2.2.1
    have Rw := H.rowRd (List.mem_cons_of_mem _ List.mem_cons_self)
    obtain ⟨ba, oa, rfl, _⟩ := Rw.lt (by rw [ofrL_len]; omega)
    by_cases h1 : x < 1
    · have d1 : decide (x < 1) = true := decide_eq_true h1
      have e1 : takeE B s x = 1 := by unfold takeE; rw [hf]; simp [h1]
      have e3 : takeS B s x = B := by unfold takeS; rw [hf]; simp [h1]
      rw [e1, e3]
      clear e1 e3 hf hg hi h1
      generalize iO B.L s = k at *
      generalize B.L.length = n at *
      go_enter Try.func60, Try.ntmps60
      go_wp2_with (first | go_skip | ((with_reducible refine AnsH.call (by assumption) H ?_); clear H; intro _ H))
      go_ret
      exact ⟨_, rfl, H⟩
    · have d1 : decide (x < 1) = false := decide_eq_false h1
      by_cases h2 : o.le < x
      · have d2 : decide (x > o.le) = true := decide_eq_true h2
        have d3 : decide (o.le < x) = true := decide_eq_true h2
        have e1 : takeE B s x = 1 := by unfold takeE; rw [hf]; simp [h2]
        have e3 : takeS B s x = B := by unfold takeS; rw [hf]; simp [h2]
        rw [e1, e3]
        have HF := Lib.hid (⟨hf, hi, hg⟩ : _ ∧ _ ∧ _)
        clear e1 e3 hf hg hi h1 h2 Rw
        generalize iO B.L s = k at *
        generalize hn : B.L.length = n at *
        go_enter Try.func60, Try.ntmps60
        go_wp2_with (first
          | go_skip
          | ((with_reducible refine AnsH.call (by assumption) H ?_); clear H; intro _ H)
          | ((with_reducible show wpList _ _ _ (_ :: _) _ _); (with_reducible apply wpl_loadCH); (· exact cell_ofrs); (· rfl); (· rfl); (· exact H); (· exact List.mem_cons_self); (· exact bkb_g0 ..); (simp only [Act.put, List.setIfInBounds_toArray, List.set_cons_zero, List.set_cons_succ]))
          | ((with_reducible show wpList _ _ _ (_ :: _) _ _); (with_reducible apply wpl_loadCell cell_i64); (· rfl); (· rfl); (· exact rd_ofr (H.rowRd (List.mem_cons_of_mem _ List.mem_cons_self)) HF.out.2.2 (j := 4) rfl); (simp only [Act.put, List.setIfInBounds_toArray, List.set_cons_zero, List.set_cons_succ])))
        go_ret
        exact ⟨_, rfl, H⟩
      · have d2 : decide (x > o.le) = false := decide_eq_false h2
        have d3 : decide (o.le < x) = false := decide_eq_false h2
        have e1 : takeE B s x = 0 := by unfold takeE; rw [hf]; simp [h1, h2]
        have e3 : takeS B s x = ⟨setO B.L s (o.le - x), B.nx⟩ := by unfold takeS; rw [hf]; simp [h1, h2]
        rw [e1, e3]
        clear Rw
        obtain ⟨g, c', cur, hv, -, -, -, -, -⟩ := (H.perm (.swap _ _ _)).rowCelO (by omega)
        cases hv
        clear cur
        have HK := Lib.hid (show ∀ V, Heap W (BkB p (.slice (some ⟨ba, 0, none⟩) B.L.length c) B.nx :: OfT (.slice (some ⟨ba, 0, none⟩) B.L.length c) B.L.length B.L :: l) V → ∃ cur : Array Value, cur.size = c * 7 ∧ cur.toList.take (B.L.length * 7) = ofrL B.L ∧ Heap W (Cel ba cur 83 :: BkB p (.slice (some ⟨ba, 0, none⟩) B.L.length c) B.nx :: l) V from fun V HV => by
          obtain ⟨g', c', cur, hv, _, _, hs1, hs2, H'⟩ := (HV.perm (.swap _ _ _)).rowCelO (by omega)
          cases hv
          exact ⟨cur, hs1, hs2, H'⟩)
        have hpos := setO_pos (v := o.le - x) (s := s) (L := B.L) (o := o)
        have hzero := setO_zero (s := s) (L := B.L) (o := o)
        have HF := Lib.hid (⟨hf, hi, hg, (fun h : 0 < o.le - x => hpos h G.ord G.pos hg), hzero G.ord G.pos hg⟩ : _ ∧ _ ∧ _ ∧ _ ∧ _)
        clear e1 e3 hf hg hi hpos hzero hmem
        have HG := Lib.hid (show (B.L.set (iO B.L s) { o with le := o.le - x })[iO B.L s]? = some { o with le := o.le - x } by rw [List.getElem?_set_self hlt])
        have HS := Lib.hid (show (B.L.set (iO B.L s) { o with le := o.le - x }).length = B.L.length by rw [List.length_set])
        have HE := Lib.hid (show (B.L.eraseIdx (iO B.L s)).length = B.L.length - 1 by rw [List.length_eraseIdx, if_pos hlt])
        generalize iO B.L s = k at *
        generalize hn : B.L.length = n at *
        by_cases h3 : o.le - x = 0
        · have d4 : (o.le - x == 0) = true := by simpa using h3
          rw [h3, HF.out.2.2.2.2]
          have H3 := Lib.hid h3
          clear h3
          go_enter Try.func60, Try.ntmps60
          go_wp2_with (first
            | ((obtain ⟨cur, hs1, hs2, H2⟩ := HK.out _ H); (with_reducible show wpList _ _ _ (_ :: _) _ _); (with_reducible apply wpl_storeIH); (· exact cell_i64); (· rfl); (· rfl); (· rfl); (· exact H2); (· exact List.mem_cons_self); (· omega); (· rfl); (· exact Repl.here); (clear H H2; intro _ H; replace H := (OfT.of H (by simpa using hs1) hc1 hc2 (cur_set (o.le - x) hs2 HF.out.2.2.1)).perm (.swap _ _ _); clear hs1 hs2; clear cur); (simp only [Act.put, List.setIfInBounds_toArray, List.set_cons_zero, List.set_cons_succ]))
            | go_skip
            | ((with_reducible refine AnsH.call (by assumption) H ?_); clear H; intro _ H)
            | ((with_reducible show wpList _ _ _ (_ :: _) _ _); (with_reducible apply wpl_loadCH); (· exact cell_ofrs); (· rfl); (· rfl); (· exact H); (· exact List.mem_cons_self); (· exact bkb_g0 ..); (simp only [Act.put, List.setIfInBounds_toArray, List.set_cons_zero, List.set_cons_succ]))
            | ((with_reducible show wpList _ _ _ (_ :: _) _ _); (with_reducible apply wpl_loadCell cell_i64); (· rfl); (· rfl); (· first | exact rd_ofr0 (H.rowRd (List.mem_cons_of_mem _ List.mem_cons_self)) HF.out.2.2.1 (j := 4) rfl | exact rd_ofr0 (H.rowRd (List.mem_cons_of_mem _ List.mem_cons_self)) HG.out (j := 4) rfl); (simp only [Act.put, List.setIfInBounds_toArray, List.set_cons_zero, List.set_cons_succ])))
          refine (deleteO_H HS.out hlt (by omega) (H.perm (.swap _ _ _))).mono ?_
          clear H
          rintro e w2 ⟨v2, rfl, H⟩
          rw [List.eraseIdx_set_eq] at H
          obtain ⟨a2, c2, rfl, hd1, hd2⟩ := RowT.form0 (H.ok _ List.mem_cons_self)
          go_wp2_with (first | go_skip | (first | ((with_reducible show wpList _ _ _ (_ :: _) _ _); (with_reducible apply wpl_storeIH); (· exact cell_ofrs); (· rfl); (· rfl); (· rfl); (· exact H); (· (repeat (first | (with_reducible exact List.mem_cons_self) | with_reducible apply List.mem_cons_of_mem))); (· (simp only [bkb_sz, Nat.reduceLT]; done)); (· (with_reducible first | exact bkb_s0 .. | exact bkb_s1 ..)); (· (repeat (first | (with_reducible exact Repl.here) | with_reducible apply Repl.there))); (clear H; intro _ H); (simp only [Act.put, List.setIfInBounds_toArray, List.set_cons_zero, List.set_cons_succ])) | ((with_reducible show wpList _ _ _ (_ :: _) _ _); (with_reducible apply wpl_storeBH); (· exact cell_ofrs); (· rfl); (· rfl); (· rfl); (· exact H); (· (repeat (first | (with_reducible exact List.mem_cons_self) | with_reducible apply List.mem_cons_of_mem))); (· (simp only [bkb_sz, Nat.reduceLT]; done)); (· (with_reducible first | exact bkb_s0 .. | exact bkb_s1 ..)); (· (repeat (first | (with_reducible exact Repl.here) | with_reducible apply Repl.there))); (clear H; intro _ H); (simp only [Act.put, List.setIfInBounds_toArray, List.set_cons_zero, List.set_cons_succ])) | ((with_reducible show wpList _ _ _ (_ :: _) _ _); (with_reducible apply wpl_storeSH); (· exact cell_ofrs); (· rfl); (· rfl); (· rfl); (· exact H); (· (repeat (first | (with_reducible exact List.mem_cons_self) | with_reducible apply List.mem_cons_of_mem))); (· (simp only [bkb_sz, Nat.reduceLT]; done)); (· (with_reducible first | exact bkb_s0 .. | exact bkb_s1 ..)); (· (repeat (first | (with_reducible exact Repl.here) | with_reducible apply Repl.there))); (clear H; intro _ H); (simp only [Act.put, List.setIfInBounds_toArray, List.set_cons_zero, List.set_cons_succ])) | ((with_reducible show wpList _ _ _ (_ :: _) _ _); (with_reducible apply wpl_storePH); (· exact cell_ofrs); (· rfl); (· rfl); (· rfl); (· exact H); (· (repeat (first | (with_reducible exact List.mem_cons_self) | with_reducible apply List.mem_cons_of_mem))); (· (simp only [bkb_sz, Nat.reduceLT]; done)); (· (with_reducible first | exact bkb_s0 .. | exact bkb_s1 ..)); (· (repeat (first | (with_reducible exact Repl.here) | with_reducible apply Repl.there))); (clear H; intro _ H); (simp only [Act.put, List.setIfInBounds_toArray, List.set_cons_zero, List.set_cons_succ]))))
          go_ret
          refine ⟨.slice a2 (n - 1) c2, rfl, ?_⟩
          show Heap W (BkB p _ _ :: OfT _ (B.L.eraseIdx k).length _ :: l) _
          rw [HE.out]
          exact H.perm (.swap _ _ _)
        · have d4 : (o.le - x == 0) = false := by simpa using h3
          rw [HF.out.2.2.2.1 (by omega)]
          clear h3
          go_enter Try.func60, Try.ntmps60
          go_wp2_with (first
            | ((obtain ⟨cur, hs1, hs2, H2⟩ := HK.out _ H); (with_reducible show wpList _ _ _ (_ :: _) _ _); (with_reducible apply wpl_storeIH); (· exact cell_i64); (· rfl); (· rfl); (· rfl); (· exact H2); (· exact List.mem_cons_self); (· omega); (· rfl); (· exact Repl.here); (clear H H2; intro _ H; replace H := (OfT.of H (by simpa using hs1) hc1 hc2 (cur_set (o.le - x) hs2 HF.out.2.2.1)).perm (.swap _ _ _); clear hs1 hs2; clear cur); (simp only [Act.put, List.setIfInBounds_toArray, List.set_cons_zero, List.set_cons_succ]))
            | go_skip
            | ((with_reducible refine AnsH.call (by assumption) H ?_); clear H; intro _ H)
            | ((with_reducible show wpList _ _ _ (_ :: _) _ _); (with_reducible apply wpl_loadCH); (· exact cell_ofrs); (· rfl); (· rfl); (· exact H); (· exact List.mem_cons_self); (· exact bkb_g0 ..); (simp only [Act.put, List.setIfInBounds_toArray, List.set_cons_zero, List.set_cons_succ]))
            | ((with_reducible show wpList _ _ _ (_ :: _) _ _); (with_reducible apply wpl_loadCell cell_i64); (· rfl); (· rfl); (· first | exact rd_ofr0 (H.rowRd (List.mem_cons_of_mem _ List.mem_cons_self)) HF.out.2.2.1 (j := 4) rfl | exact rd_ofr0 (H.rowRd (List.mem_cons_of_mem _ List.mem_cons_self)) HG.out (j := 4) rfl); (simp only [Act.put, List.setIfInBounds_toArray, List.set_cons_zero, List.set_cons_succ])))
          go_ret
          refine ⟨.slice (some ⟨ba, 0, none⟩) n c, rfl, ?_⟩
          show Heap W (BkB p _ _ :: OfT _ (B.L.set k _).length _ :: l) _
          rw [HS.out]
          exact H
end
end Go.Proofs.Ytacglcpjbepfnaa

/- Worlds that are others grown: some draws on, some blocks behind. cmp.Compare, cmp.Or. -/
namespace Go.Proofs.Ytacglcpjbepfnaa
open Go.RowKit Go.Sort
set_option linter.unusedSimpArgs false
set_option linter.unusedVariables false
def Grw (w w' : World) : Prop := ∃ q os, w' = grow (w.drewN q) os
theorem Grw.refl (w : World) : Grw w w := ⟨0, #[], by rw [grow_empty]; rfl⟩
theorem Grw.trans {a b c : World} (h : Grw a b) (k : Grw b c) : Grw a c := by
  obtain ⟨q, os, rfl⟩ := h
  obtain ⟨q', os', rfl⟩ := k
  exact ⟨q + q', os ++ os', by rw [show (grow (a.drewN q) os).drewN q' = grow ((a.drewN q).drewN q') os from rfl, grow_grow]; simp [World.drewN, grow, Nat.add_assoc]⟩
theorem Grw.alloc {a b : World} (h : Grw a b) (o : Obj) : Grw a (b.alloc o) := h.trans ⟨0, #[o], by rw [alloc_eq_grow]; rfl⟩
theorem Grw.drew {a b : World} (h : Grw a b) : Grw a b.drew := h.trans ⟨1, #[], by rw [grow_empty]; rfl⟩
theorem Grw.old {a b : World} (h : Grw a b) {k : Nat} (hk : k < a.heap.size) : b.heap[k]? = a.heap[k]? := by
  obtain ⟨q, os, rfl⟩ := h
  exact heap_grow_old _ _ hk
theorem Grw.size {a b : World} (h : Grw a b) : a.heap.size ≤ b.heap.size := by
  obtain ⟨q, os, rfl⟩ := h
  simp [grow, World.drewN]
theorem Grw.blk {a b : World} (h : Grw a b) {p : Nat} {o : Obj} (hb : blk a p = some o) : blk b p = some o := (h.old (Array.getElem?_eq_some_iff.1 hb).1).trans hb
theorem Grw.below {a b : World} (h : Grw a b) : Below a.heap.size a b := by
  obtain ⟨q, os, rfl⟩ := h
  exact ⟨rfl, rfl, rfl, by simp [grow, World.drewN], fun k hk => heap_grow_old _ _ hk⟩
open Classical in
noncomputable def World.gr (w d : World) : World := if Grw w d then d else w
theorem gr_grw (w d : World) : Grw w (World.gr w d) := by
  unfold World.gr
  split
  · assumption
  · exact .refl _
theorem gr_of {w w' : World} (h : Grw w w') : ∃ d, w' = World.gr w d := ⟨w', by unfold World.gr; rw [if_pos h]⟩
/-- Called so it answers v, in whatever world, which is then some draws on, with blocks behind. -/
def AnsG (f : FuncId) (args : Array Value) (v : Value) : Prop := ∀ w, Calls Try.prog f args w fun e w' => e = .returned v ∧ Grw w w'
theorem AnsG.quiet {f : FuncId} {args : Array Value} {v : Value} {W d : World} (h : AnsG f args v) : Calls Try.prog f args (World.gr W d) fun e w'' => e = .returned v ∧ ∃ m, w'' = World.gr W m :=
  (h _).mono fun _ _ ⟨he, hg⟩ => ⟨he, gr_of ((gr_grw W d).trans hg)⟩
section
variable {ops : Array Oper} {rest : List Oper} {a : Act} {w W : World} {Q : Exit → Act → World → Prop}
theorem wp_region_G_tail {id : Nat} {lo : List Oper} (n : Nat) (hm : Try.prog.follows .mixedOrders = true) (hB : Region.lexTailB .any lo.toArray n = true)
    (h : wpQuiet Try.prog lo.toArray (fun w' => ∃ d, w' = World.gr W d) (fun a' => ∀ w', Grw W w' → wpList Try.prog lo.toArray Q (lo.drop n) a' w') (lo.take n) a) : (Code.region id lo.toArray true).wp Try.prog Q a W :=
  wp_region_tail (C := fun w' => ∃ d, w' = World.gr W d) n hm hB (gr_of (Grw.refl W).drew) (wpQuiet_mono (fun _ h w' hw' => by obtain ⟨d, rfl⟩ := hw'; exact h _ (gr_grw _ _)) _ _ h)
theorem wpQ_loadCG {T : TypeId} {dst : Option Tmp} {ty : TypeId} {pos : String} {after : Array Edge} {guard : Option (Nat × Bool)} {x : Operand} {b off : Nat} {K : Act → Prop} (CT : CellTy T) (hw : Region.wanted ⟨dst, .load T x, ty, pos, after, guard⟩ (yielded ops a.tmps) = true) (hx : a.eval x = .pointer (some ⟨b, off, none⟩))
    {c : Array Value} {v : Value} {t : TypeId} (hb : blk W b = some (.cells c t (0, 0))) (hv : c[off]? = some v)
    (h : wpQuiet Try.prog ops (fun w' => ∃ d, w' = World.gr W d) K rest (a.put dst v)) : wpQuiet Try.prog ops (fun w' => ∃ d, w' = World.gr W d) K (⟨dst, .load T x, ty, pos, after, guard⟩ :: rest) a := by
  refine BigFrame.wpQuiet_want hw fun K hK => ⟨_, ?_, hK _ h⟩
  rintro _ ⟨d, rfl⟩
  unfold Oper.quietAt execOp
  simp only [hx, Sem.run_bind, run_loadC CT ((gr_grw W d).blk hb) hv]
  exact ⟨rfl, rfl⟩
theorem wpQ_loadRG {T n : Nat} {z : Array Value} {dst : Option Tmp} {ty : TypeId} {pos : String} {after : Array Edge} {guard : Option (Nat × Bool)} {x : Operand} {b off : Nat} {K : Act → Prop} (RT : RowTy T n z) (hw : Region.wanted ⟨dst, .load T x, ty, pos, after, guard⟩ (yielded ops a.tmps) = true) (hx : a.eval x = .pointer (some ⟨b, off, none⟩))
    {c c1 : Array Value} {t : TypeId} (hb : blk W b = some (.cells c t (0, 0))) (hn : off + n ≤ c.size) (he : c.extract off (off + n) = c1)
    (h : wpQuiet Try.prog ops (fun w' => ∃ d, w' = World.gr W d) K rest (a.put dst (.agg c1))) : wpQuiet Try.prog ops (fun w' => ∃ d, w' = World.gr W d) K (⟨dst, .load T x, ty, pos, after, guard⟩ :: rest) a := by
  subst he
  refine BigFrame.wpQuiet_want hw fun K hK => ⟨_, ?_, hK _ h⟩
  rintro _ ⟨d, rfl⟩
  unfold Oper.quietAt execOp
  simp only [hx, Sem.run_bind, run_loadR RT ((gr_grw W d).blk hb) hn]
  exact ⟨rfl, rfl⟩
end
set_option maxRecDepth 100000
set_option maxHeartbeats 1000000
end Go.Proofs.Ytacglcpjbepfnaa

/- Lists in a strict order. (Plain.) -/
namespace Go.Proofs.Ytacglcpjbepfnaa
theorem pw_ext {α : Type} {r : α → α → Prop} (ha : ∀ x y, r x y → ¬ r y x) : ∀ {L M : List α}, L.Pairwise r → M.Pairwise r → (∀ z, z ∈ L ↔ z ∈ M) → L = M
  | [], [], _, _, _ => rfl
  | [], b :: M, _, _, h => by have := (h b).2 (List.mem_cons_self ..); cases this
  | a :: L, [], _, _, h => by have := (h a).1 (List.mem_cons_self ..); cases this
  | a :: L, b :: M, hL, hM, h => by
    have h1 := List.pairwise_cons.1 hL
    have h2 := List.pairwise_cons.1 hM
    have e : a = b := by
      rcases List.mem_cons.1 ((h a).1 (List.mem_cons_self ..)) with e | ha'
      · exact e
      · rcases List.mem_cons.1 ((h b).2 (List.mem_cons_self ..)) with e | hb
        · exact e.symm
        · exact absurd (h2.1 _ ha') (ha _ _ (h1.1 _ hb))
    subst e
    congr 1
    refine pw_ext ha h1.2 h2.2 fun z => ⟨fun hz => ?_, fun hz => ?_⟩
    · rcases List.mem_cons.1 ((h z).1 (List.mem_cons_of_mem _ hz)) with e | hz'
      · subst e; exact absurd (h1.1 _ hz) (ha _ _ (h1.1 _ hz))
      · exact hz'
    · rcases List.mem_cons.1 ((h z).2 (List.mem_cons_of_mem _ hz)) with e | hz'
      · subst e; exact absurd (h2.1 _ hz) (ha _ _ (h2.1 _ hz))
      · exact hz'
theorem pw_nodup {α : Type} {r : α → α → Prop} (hr : ∀ x, ¬ r x x) {L : List α} (h : L.Pairwise r) : L.Nodup := by
  unfold List.Nodup
  exact h.imp fun {a b} hab e => by subst e; exact hr _ hab
end Go.Proofs.Ytacglcpjbepfnaa

/- A row of structs put in order, as a thing: of whatever type. -/
namespace Go.Proofs.Ytacglcpjbepfnaa
open Go.RowKit Go.Sort
set_option linter.unusedVariables false
set_option linter.unusedSimpArgs false
section
variable {W w : World} {l : List Thing} {g n c : Nat} {e : TypeId} {cur F : Array Value}
theorem putRow_else {k : Nat} {off : Nat} (h : k ≠ g) (F : Array Value) : (putRow id w g off F).heap[k]? = w.heap[k]? := by
  simp [putRow, mapBlock, Array.getElem?_modify, Ne.symm h]
theorem sort_grown {α : Type} [Inhabited α] (enc : α → List Value) (k m : Nat) {off : Nat} (d' : Array α) (os : Array Obj) : w.grownBy (sortWorldK enc k w g off m d' os) (some g) := by
  refine ⟨rfl, rfl, rfl, size_sortWorldK_c enc k w g off m d' os, fun j hj hne => ?_⟩
  have hne : j ≠ g := fun h => hne (by rw [h])
  unfold sortWorldK
  rw [heap_grow_old _ _ (by simpa [putRowK, putRow, mapBlock, Sort.ahead] using hj)]
  unfold putRowK
  rw [putRow_else hne]
  rfl
end
section
variable {α : Type} {enc : α → List Value} {k : Nat}
theorem encL_len (he : ∀ x, (enc x).length = k) : ∀ L : List α, (L.flatMap enc).length = L.length * k
  | [] => by simp
  | x :: L => by rw [List.flatMap_cons, List.length_append, encL_len he L, he, List.length_cons, Nat.add_mul]; omega
theorem encL_at (he : ∀ x, (enc x).length = k) : ∀ (L : List α) (i : Nat) (h : i < L.length), ((L.flatMap enc).drop (i * k)).take k = enc L[i]
  | [], i, h => by simp at h
  | x :: L, 0, _ => by
    rw [List.flatMap_cons, Nat.zero_mul, List.drop_zero, List.take_append_of_le_length (by rw [he]; exact Nat.le_refl _), List.take_of_length_le (by rw [he]; exact Nat.le_refl _)]
    rfl
  | x :: L, i + 1, h => by
    have ih := encL_at he L i (by simpa using h)
    rw [List.getElem_cons_succ, ← ih, List.flatMap_cons, show (i + 1) * k = (enc x).length + i * k by rw [he, Nat.add_mul]; omega, List.drop_length_add_append]
variable [Inhabited α]
theorem flatG (he : ∀ x, (enc x).length = k) (hk : 0 < k) (d : Array α) : flatK enc k d = (d.toList.flatMap enc).toArray := by
  refine Go.Sort.ext_get! (by simp [encL_len he]) fun t ht => ?_
  have ht' : t < d.size * k := by simpa using ht
  rw [get_flatK _ _ _ _ ht']
  have hq : t / k < d.toList.length := by rw [Array.length_toList]; exact (Nat.div_lt_iff_lt_mul hk).2 ht'
  have h1 := encL_at he d.toList (t / k) hq
  have hr : t % k < k := Nat.mod_lt _ hk
  have h2 : (d.toList.flatMap enc)[t]? = (enc d.toList[t / k])[t % k]? := by
    rw [← h1, List.getElem?_take, if_pos hr, List.getElem?_drop]
    congr 1
    have := Nat.div_add_mod t k
    rw [Nat.mul_comm] at this
    omega
  have h3 : d[t / k]! = d.toList[t / k] := by
    rw [getElem!_pos d (t / k) (by simpa using hq)]; simp
  rw [h3]
  have h4 : ((d.toList.flatMap enc).toArray)[t]! = ((d.toList.flatMap enc)[t]?).getD default := by simp [Array.getElem!_eq_getD, Array.getD_eq_getD_getElem?]
  rw [h4, h2]
  simp [List.getElem!_eq_getElem?_getD]
section
variable {W w : World} {l : List Thing} {g n c : Nat} {e : TypeId} {cur F : Array Value}
theorem putRow_atO (h : w.heap[g]? = some (.cells cur e (0, 0))) (off : Nat) (F : Array Value) : (putRow id w g off F).heap[g]? = some (.cells (putCells id off F cur) e (0, 0)) := by
  simp [putRow, mapBlock, Array.getElem?_modify, h, onCells]
theorem putCells_takeO {off : Nat} (hF : off + F.size ≤ cur.size) : ((putCells id off F cur).toList.drop off).take F.size = F.toList := by
  apply List.ext_getElem?
  intro i
  rw [List.getElem?_take]
  by_cases hi : i < F.size
  · rw [if_pos hi, List.getElem?_drop]
    have h1 : off + i < cur.size := by omega
    simp [putCells, h1, hi]
  · rw [if_neg hi]
    simp [hi]
theorem sortG_holds (he : ∀ x, (enc x).length = k) (hk : 0 < k) {off : Nat} {L : List α} (h : (OwnT e k (.slice (some ⟨g, off, none⟩) n c) n (L.flatMap enc)).ok w) (hn : L.length = n) : HoldsK enc k w g off L.toArray := by
  obtain ⟨_, ⟨h1, _⟩ | ⟨g', off', cap, cur, h1, _, hh, h3, _, h5, ht⟩⟩ := h
  · cases h1
  · cases h1
    unfold HoldsK
    rw [flatG he hk]
    intro j hj
    have hj' : j < (L.flatMap enc).length := by simpa using hj
    have hj3 : j < n * k := by rw [encL_len he, hn] at hj'; exact hj'
    have hj2 : off + j < cur.size := by
      have := Nat.mul_le_mul_right k h3
      omega
    have hc : cur[off + j]? = (L.flatMap enc)[j]? := by
      rw [← ht, List.getElem?_take, if_pos hj3, List.getElem?_drop]
      simp
    rw [List.getElem?_eq_getElem hj'] at hc
    refine ⟨?_, ?_⟩
    · simp only [World.cell?, hh, if_true, hc]
      simp [hj']
      rw [List.getElem?_eq_getElem hj']
      rfl
    · simp [World.frozen?, hh]
theorem sortG_after (he : ∀ x, (enc x).length = k) (hk : 0 < k) {off : Nat} {L : List α} (h : (OwnT e k (.slice (some ⟨g, off, none⟩) n c) n (L.flatMap enc)).ok w) (m : Nat) (d' : Array α) (os : Array Obj) (hd : d'.size = n) : (OwnT e k (.slice (some ⟨g, off, none⟩) n c) n (d'.toList.flatMap enc)).ok (sortWorldK enc k w g off m d' os) := by
  obtain ⟨_, ⟨h1, _⟩ | ⟨g', off', cap, cur, h1, hg, hh, h2, h3, h4, ht⟩⟩ := h
  · cases h1
  · cases h1
    have hm := Nat.mul_le_mul_right k h2
    have hF : off + (flatK enc k d').size ≤ cur.size := by rw [size_flatK, hd]; omega
    refine ⟨by rw [encL_len he]; simp [hd], .inr ⟨g, off, c, putCells id off (flatK enc k d') cur, rfl, hg, ?_, h2, h3, ?_, ?_⟩⟩
    · unfold sortWorldK
      have hlt : g < w.heap.size := (Array.getElem?_eq_some_iff.1 hh).1
      rw [heap_grow_old _ _ (by simpa [putRowK, putRow, mapBlock, Sort.ahead] using hlt)]
      exact putRow_atO hh _ _
    · simpa [putCells] using h4
    · have := putCells_takeO hF
      rw [size_flatK, hd] at this
      rw [this, flatG he hk]
theorem sortG_heap (he : ∀ x, (enc x).length = k) (hk : 0 < k) {off : Nat} {L M : List α} (H : Heap W (OwnT e k (.slice (some ⟨g, off, none⟩) n c) n (L.flatMap enc) :: l) w) (hn : L.length = n) {m : Nat} {d' : Array α} {os : Array Obj} (h1 : PermIn 0 L.toArray.size L.toArray d') (hM : d'.toList = M) :
    Heap W (OwnT e k (.slice (some ⟨g, off, none⟩) n c) n (M.flatMap enc) :: l) (sortWorldK enc k w g off m d' os) := by
  have hd : d'.size = n := by rw [h1.1]; simpa using hn
  have := sortG_after he hk (H.ok _ (List.mem_cons_self ..)) m d' os hd
  rw [hM] at this
  exact H.head (sort_grown enc k m d' os) this (.inl rfl)
theorem slG_lt {xs : List Value} {z off : Nat} (H : Heap W (OwnT e z (.slice (some ⟨g, off, none⟩) n c) n xs :: l) w) : g < w.heap.size := (H.fp _ (List.mem_cons_self ..) g rfl).2
end
/-- What is sorted is the one list in this order. -/
theorem sortedG {cf : α → α → Int} {r : α → α → Prop} (ra : ∀ x y, r x y → ¬ r y x) {M : List α} (hM : M.Pairwise r) (hr : ∀ x ∈ M, ∀ y ∈ M, r x y → ltOf cf x y = true) {d d' : Array α} (hd : d.toList.Perm M) (hp : PermIn 0 d.size d d') (hs : SortedIn (ltOf cf) 0 d.size d') : d'.toList = M := by
  obtain ⟨hsz, _, hperm⟩ := hp
  have e1 : d'.extract 0 d.size = d' := by rw [← hsz]; simp
  have e2 : d.extract 0 d.size = d := by simp
  rw [e1, e2] at hperm
  have hP : d'.toList.Perm M := hperm.trans hd
  have hndM : M.Nodup := pw_nodup (fun x h => ra x x h h) hM
  have hnd : d'.toList.Nodup := hP.nodup_iff.2 hndM
  refine pw_ext ra ?_ hM (fun z => hP.mem_iff)
  rw [List.pairwise_iff_getElem]
  intro i j hi hj hij
  have hi' : i < d'.size := by simpa using hi
  have hj' : j < d'.size := by simpa using hj
  have h := hs i j (Nat.zero_le _) hij (by omega)
  rw [getElem!_pos d' i hi', getElem!_pos d' j hj'] at h
  have mi : d'[i] ∈ M := hP.mem_iff.1 (by simp)
  have mj : d'[j] ∈ M := hP.mem_iff.1 (by simp)
  have hne := List.pairwise_iff_getElem.1 hnd i j hi hj hij
  simp only [Array.getElem_toList] at hne ⊢
  obtain ⟨a, ha, ea⟩ := List.mem_iff_getElem.1 mi
  obtain ⟨b, hb, eb⟩ := List.mem_iff_getElem.1 mj
  rw [← ea, ← eb] at hne ⊢
  rcases Nat.lt_trichotomy a b with h2 | h2 | h2
  · exact List.pairwise_iff_getElem.1 hM a b ha hb h2
  · subst h2; exact absurd rfl hne
  · have h3 := List.pairwise_iff_getElem.1 hM b a hb ha h2
    rw [ea, eb] at h3
    rw [hr _ mj _ mi h3] at h
    cases h
end
end Go.Proofs.Ytacglcpjbepfnaa
