/- ledgers.Ledger: there, may, New, Open, Has. -/
import Derived.Test.YtacglcpjbepfnaaLedTy
import Derived.Test.YtacglcpjbepfnaaHeapPair
import Derived.Test.YtacglcpjbepfnaaHeapMore
namespace Go.Proofs.Ytacglcpjbepfnaa
open Go.RowKit
set_option linter.unusedSimpArgs false
set_option linter.unusedVariables false
section
variable {W w : World} {l : List Thing} {p q : Nat} {m : Option Nat} {P : List Int} {S : Lgr} {R : Ending → World → Prop}
set_option maxRecDepth 100000
set_option maxHeartbeats 1000000
theorem lmay_ans (a : Nat) (h : a ≤ 255) : Ans 95 #[.int .u8 (a : Int)] (.bool (decide (1 ≤ a ∧ a ≤ 16))) := by
  intro w
  by_cases h1 : 1 ≤ a
  · by_cases h2 : a ≤ 16
    all_goals
      go_enter Try.func95, Try.ntmps95
      go_wp2_with fail
      go_ret
      exact ⟨by simp [h1, h2]; omega, (by repeat (first | exact Ext.refl _ | refine Ext.alloc ?_ _ | refine Ext.ext ?_ _ | refine Ext.drew ?_))⟩
  · go_enter Try.func95, Try.ntmps95
    go_wp2_with fail
    go_ret
    exact ⟨by simp [h1], (by repeat (first | exact Ext.refl _ | refine Ext.alloc ?_ _ | refine Ext.ext ?_ _ | refine Ext.drew ?_))⟩
theorem lthere_nil : Ans 77 #[.pointer none] (.bool false) := by
  intro w
  go_enter Try.func77, Try.ntmps77
  go_wp2_with fail
  go_ret
  exact ⟨rfl, (by repeat (first | exact Ext.refl _ | refine Ext.alloc ?_ _ | refine Ext.ext ?_ _ | refine Ext.drew ?_))⟩
theorem lthere_H (h : LdC p P m ∈ l) : AnsH W l 77 #[.pointer (some ⟨p, 0, none⟩)] (.bool m.isSome) := by
  intro w H
  have hm := run_neq_mapL m
  generalize m.isSome = b at *
  go_enter Try.func77, Try.ntmps77
  go_wp2_with (first | go_skip | ((with_reducible show wpList _ _ _ (_ :: _) _ _); (with_reducible apply wpl_loadCH); (· exact cell_map); (· rfl); (· rfl); (· exact H); (· exact h); (· exact ledA_map _ _); (simp only [Act.put, List.setIfInBounds_toArray, List.set_cons_zero, List.set_cons_succ])))
  go_ret
  exact ⟨rfl, H⟩
/-- The ends' numbers as they may be. -/
theorem endsMay_ans (cr db cu : Nat) (h1 : cr ≤ 255) (h2 : db ≤ 255) (h3 : cu ≤ 255) : Ans 85 #[.agg (ends (cr : Int) (db : Int) (cu : Int))] (.bool (!decide (badEnds (cr : Int) (db : Int) (cu : Int)))) := by
  intro w
  have H := Heap.start w
  have m1 := lmay_ans cr h1
  have m2 := lmay_ans db h2
  by_cases c1 : 1 ≤ cr ∧ cr ≤ 16
  · rw [decide_eq_true c1] at m1
    by_cases c2 : 1 ≤ db ∧ db ≤ 16
    · rw [decide_eq_true c2] at m2
      by_cases c3 : cr = db
      · subst c3
        have HR := Lib.hid (show decide (badEnds (cr : Int) (cr : Int) (cu : Int)) = true from decide_eq_true (by unfold badEnds; omega))
        go_enter Try.func85, Try.ntmps85
        go_wp2_with (first | go_skip | ((with_reducible show wpList _ _ _ (_ :: _) _ _); (with_reducible apply wpl_boxRH); (· rfl); (· rfl); (· exact H); (clear H; intro px _ H); (simp only [Act.put, List.setIfInBounds_toArray, List.set_cons_zero, List.set_cons_succ])) | ((with_reducible show wpList _ _ _ (_ :: _) _ _); (with_reducible apply wpl_loadCH); (· first | exact cell_party | exact cell_cur); (· rfl); (· rfl); (· exact H); (· (repeat (first | (with_reducible exact List.mem_cons_self) | with_reducible apply List.mem_cons_of_mem))); (· (with_reducible first | exact ends_g0 .. | exact ends_g1 .. | exact ends_g2 ..)); (simp only [Act.put, List.setIfInBounds_toArray, List.set_cons_zero, List.set_cons_succ])) | ((with_reducible refine Ans.callH (by assumption) H ?_); clear H; intro _ H))
        go_ret
        exact ⟨by rw [HR.out]; rfl, H.low⟩
      · have e1 : ((cr : Int) == (db : Int)) = false := by simp; omega
        have e2 : ((cr : Int) != (db : Int)) = true := by simp; omega
        by_cases c4 : 1 ≤ cu
        · by_cases c5 : cu ≤ 8
          · have e5 : decide ((cu : Int) ≤ 8) = true := decide_eq_true (by omega)
            have HR := Lib.hid (show decide (badEnds (cr : Int) (db : Int) (cu : Int)) = false from decide_eq_false (by unfold badEnds; omega))
            go_enter Try.func85, Try.ntmps85
            go_wp2_with (first | go_skip | ((with_reducible show wpList _ _ _ (_ :: _) _ _); (with_reducible apply wpl_boxRH); (· rfl); (· rfl); (· exact H); (clear H; intro px _ H); (simp only [Act.put, List.setIfInBounds_toArray, List.set_cons_zero, List.set_cons_succ])) | ((with_reducible show wpList _ _ _ (_ :: _) _ _); (with_reducible apply wpl_loadCH); (· first | exact cell_party | exact cell_cur); (· rfl); (· rfl); (· exact H); (· (repeat (first | (with_reducible exact List.mem_cons_self) | with_reducible apply List.mem_cons_of_mem))); (· (with_reducible first | exact ends_g0 .. | exact ends_g1 .. | exact ends_g2 ..)); (simp only [Act.put, List.setIfInBounds_toArray, List.set_cons_zero, List.set_cons_succ])) | ((with_reducible refine Ans.callH (by assumption) H ?_); clear H; intro _ H))
            go_ret
            exact ⟨by rw [HR.out]; rfl, H.low⟩
          · have e5 : decide ((cu : Int) ≤ 8) = false := decide_eq_false (by omega)
            have HR := Lib.hid (show decide (badEnds (cr : Int) (db : Int) (cu : Int)) = true from decide_eq_true (by unfold badEnds; omega))
            go_enter Try.func85, Try.ntmps85
            go_wp2_with (first | go_skip | ((with_reducible show wpList _ _ _ (_ :: _) _ _); (with_reducible apply wpl_boxRH); (· rfl); (· rfl); (· exact H); (clear H; intro px _ H); (simp only [Act.put, List.setIfInBounds_toArray, List.set_cons_zero, List.set_cons_succ])) | ((with_reducible show wpList _ _ _ (_ :: _) _ _); (with_reducible apply wpl_loadCH); (· first | exact cell_party | exact cell_cur); (· rfl); (· rfl); (· exact H); (· (repeat (first | (with_reducible exact List.mem_cons_self) | with_reducible apply List.mem_cons_of_mem))); (· (with_reducible first | exact ends_g0 .. | exact ends_g1 .. | exact ends_g2 ..)); (simp only [Act.put, List.setIfInBounds_toArray, List.set_cons_zero, List.set_cons_succ])) | ((with_reducible refine Ans.callH (by assumption) H ?_); clear H; intro _ H))
            go_ret
            exact ⟨by rw [HR.out]; rfl, H.low⟩
        · have HR := Lib.hid (show decide (badEnds (cr : Int) (db : Int) (cu : Int)) = true from decide_eq_true (by unfold badEnds; omega))
          go_enter Try.func85, Try.ntmps85
          go_wp2_with (first | go_skip | ((with_reducible show wpList _ _ _ (_ :: _) _ _); (with_reducible apply wpl_boxRH); (· rfl); (· rfl); (· exact H); (clear H; intro px _ H); (simp only [Act.put, List.setIfInBounds_toArray, List.set_cons_zero, List.set_cons_succ])) | ((with_reducible show wpList _ _ _ (_ :: _) _ _); (with_reducible apply wpl_loadCH); (· first | exact cell_party | exact cell_cur); (· rfl); (· rfl); (· exact H); (· (repeat (first | (with_reducible exact List.mem_cons_self) | with_reducible apply List.mem_cons_of_mem))); (· (with_reducible first | exact ends_g0 .. | exact ends_g1 .. | exact ends_g2 ..)); (simp only [Act.put, List.setIfInBounds_toArray, List.set_cons_zero, List.set_cons_succ])) | ((with_reducible refine Ans.callH (by assumption) H ?_); clear H; intro _ H))
          go_ret
          exact ⟨by rw [HR.out]; rfl, H.low⟩
    · rw [decide_eq_false c2] at m2
      have HR := Lib.hid (show decide (badEnds (cr : Int) (db : Int) (cu : Int)) = true from decide_eq_true (by unfold badEnds; omega))
      go_enter Try.func85, Try.ntmps85
      go_wp2_with (first | go_skip | ((with_reducible show wpList _ _ _ (_ :: _) _ _); (with_reducible apply wpl_boxRH); (· rfl); (· rfl); (· exact H); (clear H; intro px _ H); (simp only [Act.put, List.setIfInBounds_toArray, List.set_cons_zero, List.set_cons_succ])) | ((with_reducible show wpList _ _ _ (_ :: _) _ _); (with_reducible apply wpl_loadCH); (· first | exact cell_party | exact cell_cur); (· rfl); (· rfl); (· exact H); (· (repeat (first | (with_reducible exact List.mem_cons_self) | with_reducible apply List.mem_cons_of_mem))); (· (with_reducible first | exact ends_g0 .. | exact ends_g1 .. | exact ends_g2 ..)); (simp only [Act.put, List.setIfInBounds_toArray, List.set_cons_zero, List.set_cons_succ])) | ((with_reducible refine Ans.callH (by assumption) H ?_); clear H; intro _ H))
      go_ret
      exact ⟨by rw [HR.out]; rfl, H.low⟩
  · rw [decide_eq_false c1] at m1
    have HR := Lib.hid (show decide (badEnds (cr : Int) (db : Int) (cu : Int)) = true from decide_eq_true (by unfold badEnds; omega))
    go_enter Try.func85, Try.ntmps85
    go_wp2_with (first | go_skip | ((with_reducible show wpList _ _ _ (_ :: _) _ _); (with_reducible apply wpl_boxRH); (· rfl); (· rfl); (· exact H); (clear H; intro px _ H); (simp only [Act.put, List.setIfInBounds_toArray, List.set_cons_zero, List.set_cons_succ])) | ((with_reducible show wpList _ _ _ (_ :: _) _ _); (with_reducible apply wpl_loadCH); (· first | exact cell_party | exact cell_cur); (· rfl); (· rfl); (· exact H); (· (repeat (first | (with_reducible exact List.mem_cons_self) | with_reducible apply List.mem_cons_of_mem))); (· (with_reducible first | exact ends_g0 .. | exact ends_g1 .. | exact ends_g2 ..)); (simp only [Act.put, List.setIfInBounds_toArray, List.set_cons_zero, List.set_cons_succ])) | ((with_reducible refine Ans.callH (by assumption) H ?_); clear H; intro _ H))
    go_ret
    exact ⟨by rw [HR.out]; rfl, H.low⟩
end
end Go.Proofs.Ytacglcpjbepfnaa
