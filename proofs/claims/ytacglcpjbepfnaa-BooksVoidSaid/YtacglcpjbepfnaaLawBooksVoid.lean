/- The walk of BooksVoid: whatever the act, the law returns true. -/
import Derived.Test.YtacglcpjbepfnaaBok11
import Derived.Test.YtacglcpjbepfnaaOpen04
namespace Go.Proofs.Ytacglcpjbepfnaa
open Go.RowKit
set_option linter.unusedSimpArgs false
set_option linter.unusedVariables false
set_option maxRecDepth 100000
def ppb (a : Value) (b : Value) : Array Value := #[a, b]
section
variable (a : Value) (b : Value)
theorem ppb_sz : (ppb a b).size = 2 := rfl
theorem ppb_g0 : (ppb a b)[0]? = some (a) := rfl
theorem ppb_s0 (v : Value) : (ppb a b).setIfInBounds 0 (v) = ppb v b := rfl
theorem ppb_g1 : (ppb a b)[1]? = some (b) := rfl
theorem ppb_s1 (v : Value) : (ppb a b).setIfInBounds 1 (v) = ppb a v := rfl
end
theorem ppb_ones (pn : Nat) : ∀ v ∈ [Value.pointer none, .pointer (some ⟨pn, 0, none⟩)], v.cells = #[v] := by
  intro v hv
  simp at hv
  rcases hv with rfl | rfl <;> rfl
theorem bs_ppb : Try.prog.underlying 100 = some (.slice 74) ∧ (Try.prog.info? 74).map (fun i => (i.size, i.zero)) = some (1, some (.pointer none)) := ⟨Try.underlying100, by kernel_rfl⟩
section
variable {W w : World} {l : List Thing}
set_option maxHeartbeats 8000000
theorem bcopy_nil : Ans 61 #[.pointer none] (.pointer none) := by
  intro w
  have T := bthere_nil
  go_enter Try.func61, Try.ntmps61
  go_wp2_with (first | go_skip | ((with_reducible refine Ans.call (by assumption) ?_); intro _))
  go_ret
  exact ⟨rfl, (by repeat (first | exact Ext.refl _ | refine Ext.alloc ?_ _ | refine Ext.ext ?_ _ | refine Ext.drew ?_))⟩
theorem bcopy_zero {p : Nat} {v : Value} (m : BkB p v 0 ∈ l) : AnsH W l 61 #[.pointer (some ⟨p, 0, none⟩)] (.pointer none) := by
  intro w H
  have T := bthere_zero (W := W) m
  go_enter Try.func61, Try.ntmps61
  go_wp2_with (first | go_skip | ((with_reducible refine AnsH.call (by assumption) H ?_); clear H; intro _ H))
  go_ret
  exact ⟨rfl, H⟩
theorem booksVoid_walk (x : OAct) (hx : OActOk x) (w : World) : Calls Try.prog 11 #[.agg (oactA x)] w fun e w' => e = .returned (.bool true) ∧ Below w.heap.size w w' := by
  have H := Heap.start w
  go_enter Try.func11, Try.ntmps11
  go_wp2_with (first
    | ((with_reducible show wpList _ _ _ (_ :: _) _ _); (with_reducible apply wpl_boxRH); (· rfl); (· rfl); (· exact H); (clear H; intro px _ H); (simp only [Act.put, List.setIfInBounds_toArray, List.set_cons_zero, List.set_cons_succ]))
    | ((with_reducible show wpList _ _ _ (_ :: _) _ _); (with_reducible apply wpl_allocRH row_bkb); (· rfl); (· exact H); (clear H; intro pn _ H); (simp only [Act.put, List.setIfInBounds_toArray, List.set_cons_zero, List.set_cons_succ]))
    | ((with_reducible show wpList _ _ _ (_ :: _) _ _); (with_reducible apply wpl_bsOnes _ [.pointer none, .pointer (some ⟨pn, 0, none⟩)]); (· rfl); (· rfl); (· rfl); (· decide); (· decide); (· exact ppb_ones pn); (· exact bs_ppb); (· rfl); (· exact H); (clear H; intro pl _ H); (change Heap _ (Cel pl (ppb _ _) _ :: _) _ at H); (simp only [Act.put, List.setIfInBounds_toArray, List.set_cons_zero, List.set_cons_succ]))
    | go_skip)
  have H0 := H
  clear H
  go_loopw [5] (fun i wr => ∃ k' : Nat, k' ≤ 2 ∧ i = .int .i64 k' ∧ Heap w [Cel pl (ppb (.pointer none) (.pointer (some ⟨pn, 0, none⟩))) 74, BkB pn (.slice none 0 0) 0, Cel px (oactA x) 97] wr) (fun i _ => 2 - (intOf i).toNat)
  case atStart => exact ⟨0, by omega, rfl, H0⟩
  case round =>
    obtain ⟨k', hk, rfl, H⟩ := hrel
    clear H0
    obtain rfl | rfl | rfl : k' = 0 ∨ k' = 1 ∨ k' = 2 := by omega
    · have c1 := place_nil x.o.ow x.o.se x.o.bu x.o.le x.o.nu x.o.de
      have c2 := cancel_nil x.o.ow x.o.sq
      have c3 := find_nil x.o.sq
      have c4 := take_nil x.o.sq x.n
      have c5 := all_nil
      have c6 := next_nil
      have c7 := bcopy_nil
      go_wp2_with (first
        | ((with_reducible show wpList _ _ _ (_ :: _) _ _); (with_reducible apply wpl_allocRH row_ofr); (· rfl); (· exact H); (clear H; intro py _ H); (simp only [Act.put, List.setIfInBounds_toArray, List.set_cons_zero, List.set_cons_succ]))
        | go_skip
        | ((with_reducible refine Ans.callH (by assumption) H ?_); clear H; intro _ H)
        | ((refine (best_nil _ _ H).mono ?_); clear H; rintro _ _ ⟨gb, rfl, H⟩)
        | ((with_reducible show wpList _ _ _ (_ :: _) _ _); (with_reducible apply wpl_loadCH); (· first | exact cell_party | exact cell_cur | exact cell_u64 | exact cell_i64); (· rfl); (· rfl); (· exact H); (· (repeat (first | (with_reducible exact List.mem_cons_self) | with_reducible apply List.mem_cons_of_mem))); (· with_reducible first | exact oact_g1 .. | exact oact_g2 .. | exact oact_g3 .. | exact oact_g4 .. | exact oact_g5 .. | exact oact_g8 ..); (simp only [Act.put, List.setIfInBounds_toArray, List.set_cons_zero, List.set_cons_succ]))
        | ((with_reducible show wpList _ _ _ (_ :: _) _ _); (with_reducible apply wpl_loadCH); (· exact cell_book); (· rfl); (· rfl); (· exact H); (· (repeat (first | (with_reducible exact List.mem_cons_self) | with_reducible apply List.mem_cons_of_mem))); (· (with_reducible first | exact ppb_g0 .. | exact ppb_g1 ..)); (simp only [Act.put, List.setIfInBounds_toArray, List.set_cons_zero, List.set_cons_succ]))
        | ((with_reducible show wpList _ _ _ (_ :: _) _ _); (with_reducible apply wpl_loadRH row_rat); (· rfl); (· rfl); (· exact H); (· (repeat (first | (with_reducible exact List.mem_cons_self) | with_reducible apply List.mem_cons_of_mem))); (· (simp only [oact_sz, Nat.reduceAdd, Nat.reduceLeDiff, Nat.le_refl]; done)); (· with_reducible exact oact_rat ..); (simp only [Act.put, List.setIfInBounds_toArray, List.set_cons_zero, List.set_cons_succ]))
        | ((with_reducible show wpList _ _ _ (_ :: _) _ _); (with_reducible apply wpl_storeRH row_ofr); (· rfl); (· rfl); (· rfl); (· with_reducible exact ofr_cells ..); (· exact H); (· (repeat (first | (with_reducible exact List.mem_cons_self) | with_reducible apply List.mem_cons_of_mem))); (· (simp only [ofrA_sz, Nat.reduceAdd, Nat.reduceLeDiff, Nat.le_refl]; done)); (· with_reducible exact ofr_splice ..); (· (repeat (first | (with_reducible exact Repl.here) | with_reducible apply Repl.there))); (clear H; intro _ H); (simp only [Act.put, List.setIfInBounds_toArray, List.set_cons_zero, List.set_cons_succ])))
      go_roundw
      case rel => exact ⟨1, by omega, rfl, H.tail⟩
      case measure => simp [intOf]
    · have c1 := fun l' m => place_zero (W := w) (l := l') (p := pn) (v := .slice none 0 0) x.o.ow x.o.se x.o.bu x.o.le x.o.nu x.o.de m
      have c2 := fun l' m => cancel_zero (W := w) (l := l') (p := pn) (v := .slice none 0 0) x.o.ow x.o.sq m
      have c3 := fun l' m => find_zero (W := w) (l := l') (p := pn) (v := .slice none 0 0) x.o.sq m
      have c4 := fun l' m => take_zero (W := w) (l := l') (p := pn) (v := .slice none 0 0) x.o.sq x.n m
      have c5 := fun l' m => all_zero (W := w) (l := l') (p := pn) (v := .slice none 0 0) m
      have c6 := fun l' m => next_zero (W := w) (l := l') (p := pn) (v := .slice none 0 0) m
      have c7 := fun l' m => bcopy_zero (W := w) (l := l') (p := pn) (v := .slice none 0 0) m
      go_wp2_with (first
        | ((with_reducible show wpList _ _ _ (_ :: _) _ _); (with_reducible apply wpl_allocRH row_ofr); (· rfl); (· exact H); (clear H; intro py _ H); (simp only [Act.put, List.setIfInBounds_toArray, List.set_cons_zero, List.set_cons_succ]))
        | go_skip
        | ((with_reducible refine AnsH.call (c1 _ (by (repeat (first | (with_reducible exact List.mem_cons_self) | with_reducible apply List.mem_cons_of_mem)))) H ?_); clear H; intro _ H)
        | ((with_reducible refine AnsH.call (c2 _ (by (repeat (first | (with_reducible exact List.mem_cons_self) | with_reducible apply List.mem_cons_of_mem)))) H ?_); clear H; intro _ H)
        | ((with_reducible refine AnsH.call (c3 _ (by (repeat (first | (with_reducible exact List.mem_cons_self) | with_reducible apply List.mem_cons_of_mem)))) H ?_); clear H; intro _ H)
        | ((with_reducible refine AnsH.call (c4 _ (by (repeat (first | (with_reducible exact List.mem_cons_self) | with_reducible apply List.mem_cons_of_mem)))) H ?_); clear H; intro _ H)
        | ((with_reducible refine AnsH.call (c5 _ (by (repeat (first | (with_reducible exact List.mem_cons_self) | with_reducible apply List.mem_cons_of_mem)))) H ?_); clear H; intro _ H)
        | ((with_reducible refine AnsH.call (c6 _ (by (repeat (first | (with_reducible exact List.mem_cons_self) | with_reducible apply List.mem_cons_of_mem)))) H ?_); clear H; intro _ H)
        | ((with_reducible refine AnsH.call (c7 _ (by (repeat (first | (with_reducible exact List.mem_cons_self) | with_reducible apply List.mem_cons_of_mem)))) H ?_); clear H; intro _ H)
        | ((refine (best_zero (p := pn) (v := .slice none 0 0) _ _ (by (repeat (first | (with_reducible exact List.mem_cons_self) | with_reducible apply List.mem_cons_of_mem))) H).mono ?_); clear H; rintro _ _ ⟨gb, rfl, H⟩)
        | ((with_reducible show wpList _ _ _ (_ :: _) _ _); (with_reducible apply wpl_loadCH); (· first | exact cell_party | exact cell_cur | exact cell_u64 | exact cell_i64); (· rfl); (· rfl); (· exact H); (· (repeat (first | (with_reducible exact List.mem_cons_self) | with_reducible apply List.mem_cons_of_mem))); (· with_reducible first | exact oact_g1 .. | exact oact_g2 .. | exact oact_g3 .. | exact oact_g4 .. | exact oact_g5 .. | exact oact_g8 ..); (simp only [Act.put, List.setIfInBounds_toArray, List.set_cons_zero, List.set_cons_succ]))
        | ((with_reducible show wpList _ _ _ (_ :: _) _ _); (with_reducible apply wpl_loadCH); (· exact cell_book); (· rfl); (· rfl); (· exact H); (· (repeat (first | (with_reducible exact List.mem_cons_self) | with_reducible apply List.mem_cons_of_mem))); (· (with_reducible first | exact ppb_g0 .. | exact ppb_g1 ..)); (simp only [Act.put, List.setIfInBounds_toArray, List.set_cons_zero, List.set_cons_succ]))
        | ((with_reducible show wpList _ _ _ (_ :: _) _ _); (with_reducible apply wpl_loadRH row_rat); (· rfl); (· rfl); (· exact H); (· (repeat (first | (with_reducible exact List.mem_cons_self) | with_reducible apply List.mem_cons_of_mem))); (· (simp only [oact_sz, Nat.reduceAdd, Nat.reduceLeDiff, Nat.le_refl]; done)); (· with_reducible exact oact_rat ..); (simp only [Act.put, List.setIfInBounds_toArray, List.set_cons_zero, List.set_cons_succ]))
        | ((with_reducible show wpList _ _ _ (_ :: _) _ _); (with_reducible apply wpl_storeRH row_ofr); (· rfl); (· rfl); (· rfl); (· with_reducible exact ofr_cells ..); (· exact H); (· (repeat (first | (with_reducible exact List.mem_cons_self) | with_reducible apply List.mem_cons_of_mem))); (· (simp only [ofrA_sz, Nat.reduceAdd, Nat.reduceLeDiff, Nat.le_refl]; done)); (· with_reducible exact ofr_splice ..); (· (repeat (first | (with_reducible exact Repl.here) | with_reducible apply Repl.there))); (clear H; intro _ H); (simp only [Act.put, List.setIfInBounds_toArray, List.set_cons_zero, List.set_cons_succ])))
      go_roundw
      case rel => exact ⟨2, by omega, rfl, H.tail⟩
      case measure => simp [intOf]
    · go_wp2_with (go_skip)
      refine (lives04_H H).mono ?_
      clear H
      rintro e w3 ⟨rfl, H⟩
      go_wp2_with (go_skip)
      go_ret
      exact ⟨rfl, H.low⟩
theorem booksVoid_law (v : Value) (w : World) (o : OActArg w v) : Calls Try.prog 11 #[v] w fun e w' => e = .returned (.bool true) ∧ Below w.heap.size w w' := by
  obtain ⟨x, rfl, hx⟩ := o
  exact booksVoid_walk x hx w
end
end Go.Proofs.Ytacglcpjbepfnaa
