/- ledgers.Ledger: New, Open, Has, Room, Line. -/
import Derived.Test.YtacglcpjbepfnaaLed1
namespace Go.Proofs.Ytacglcpjbepfnaa
open Go.RowKit
set_option linter.unusedSimpArgs false
set_option linter.unusedVariables false
abbrev line (cr db cu lim deb : Int) : Array Value := #[.int .u8 cr, .int .u8 db, .int .u8 cu, .int .i64 lim, .int .i64 deb]
theorem row_line : RowTy 39 5 (line 0 0 0 0 0) := ⟨⟨_, Try.underlying39, rfl⟩, by kernel_rfl, by kernel_rfl⟩
theorem line_all (a b c d e : Int) : (line a b c d e).extract 0 (0 + 5) = line a b c d e := by simp
theorem line_cells (a b c d e : Int) : Cells 5 (line a b c d e) := ⟨rfl, by simp [Value.oneCell']⟩
theorem line_splice (a b c d e x y z u v : Int) : splice (line a b c d e) 0 (line x y z u v) = line x y z u v := splice_all rfl
theorem line_g0 (a b c d e : Int) : (line a b c d e)[0]? = some (.int .u8 a) := rfl
theorem line_g1 (a b c d e : Int) : (line a b c d e)[1]? = some (.int .u8 b) := rfl
theorem line_g2 (a b c d e : Int) : (line a b c d e)[2]? = some (.int .u8 c) := rfl
theorem line_g3 (a b c d e : Int) : (line a b c d e)[3]? = some (.int .i64 d) := rfl
theorem line_g4 (a b c d e : Int) : (line a b c d e)[4]? = some (.int .i64 e) := rfl
theorem line_sz (a b c d e : Int) : (line a b c d e).size = 5 := rfl
theorem new_ledA : (#[.bool false, .bool false, .bool false, .bool false, .bool false, .bool false, .bool false, .bool false, .bool false, .bool false, .bool false, .bool false, .bool false, .bool false, .bool false, .bool false, .bool false, .map (some 0)] : Array Value) = ledA [] (some 0) := by kernel_rfl
section
variable {W w : World} {l : List Thing} {p q : Nat} {m : Option Nat} {P : List Int} {S : Lgr} {R : Ending → World → Prop}
set_option maxRecDepth 100000
set_option maxHeartbeats 1000000
/-- What there() is met with. -/
theorem lthere_call (H : Heap W l w) (h : LdC p P (some q) ∈ l) (k : ∀ w', Heap W l w' → R (.returned (.bool true)) w') : Calls Try.prog 77 #[.pointer (some ⟨p, 0, none⟩)] w R := (lthere_H h).call H k
theorem lnew_H (H : Heap W l w) : Calls Try.prog 31 #[] w fun e w' => ∃ p q, e = .returned (.pointer (some ⟨p, 0, none⟩)) ∧ Heap W (LdC p [] (some q) :: LdM q [] :: l) w' := by
  go_enter Try.func31, Try.ntmps31
  go_wp2_with (first
    | go_skip
    | ((with_reducible show wpList _ _ _ (_ :: _) _ _); (with_reducible apply wpl_makeM (KS := KL)); (· rfl); (· exact H); (clear H; intro q _ H); (simp only [Act.put, List.setIfInBounds_toArray, List.set_cons_zero, List.set_cons_succ]))
    | ((with_reducible show wpList _ _ _ (_ :: _) _ _); (with_reducible apply wpl_boxRH); (· rfl); (· rfl); (· exact H); (clear H; intro px _ H); (simp only [Act.put, List.setIfInBounds_toArray, List.set_cons_zero, List.set_cons_succ])))
  go_ret
  exact ⟨px, q, rfl, H⟩
theorem lopen_H (a : Nat) (ha : a ≤ 255) (H : Heap W (LdC p S.P (some q) :: l) w) : Calls Try.prog 46 #[.pointer (some ⟨p, 0, none⟩), .int .u8 (a : Int)] w fun e w' => e = .returned (.int .i64 (openE S (a : Int))) ∧ Heap W (LdC p (openS S (a : Int)).P (some q) :: l) w' := by
  have m1 := lmay_ans a ha
  by_cases c1 : 1 ≤ a ∧ a ≤ 16
  · rw [decide_eq_true c1] at m1
    have h17 : a < 17 := by omega
    by_cases c2 : (a : Int) ∈ S.P
    · have e0 : openE S (a : Int) = 8 := by unfold openE; rw [if_neg (by omega), if_pos c2]
      have e1 : openS S (a : Int) = S := by unfold openS; rw [if_neg (by omega)]
      rw [e0, e1]
      have e2 : hasP S.P (a : Int) = true := decide_eq_true c2
      clear e0 e1 c2
      generalize S.P = P at *
      go_enter Try.func46, Try.ntmps46
      go_wp2_with (first | go_skip | ((with_reducible apply lthere_call H); (· (repeat (first | (with_reducible exact List.mem_cons_self) | with_reducible apply List.mem_cons_of_mem))); (clear H; intro _ H)) | ((with_reducible refine Ans.callH (by assumption) H ?_); clear H; intro _ H) | ((with_reducible show wpList _ _ _ (_ :: _) _ _); (with_reducible apply wpl_loadCH); (· exact cell_bool); (· rfl); (· rfl); (· exact H); (· (repeat (first | (with_reducible exact List.mem_cons_self) | with_reducible apply List.mem_cons_of_mem))); (· exact ledA_getb _ _ h17 e2); (simp only [Act.put, List.setIfInBounds_toArray, List.set_cons_zero, List.set_cons_succ])))
      go_ret
      exact ⟨rfl, H⟩
    · have e0 : openE S (a : Int) = 0 := by unfold openE; rw [if_neg (by omega), if_neg c2]
      have e1 : (openS S (a : Int)).P = insP S.P a := by unfold openS; rw [if_pos e0]
      rw [e0, e1]
      have e2 : hasP S.P (a : Int) = false := decide_eq_false c2
      clear e0 e1 c2
      generalize S.P = P at *
      go_enter Try.func46, Try.ntmps46
      go_wp2_with (first
        | go_skip | ((with_reducible apply lthere_call H); (· (repeat (first | (with_reducible exact List.mem_cons_self) | with_reducible apply List.mem_cons_of_mem))); (clear H; intro _ H)) | ((with_reducible refine Ans.callH (by assumption) H ?_); clear H; intro _ H) | ((with_reducible show wpList _ _ _ (_ :: _) _ _); (with_reducible apply wpl_loadCH); (· exact cell_bool); (· rfl); (· rfl); (· exact H); (· (repeat (first | (with_reducible exact List.mem_cons_self) | with_reducible apply List.mem_cons_of_mem))); (· exact ledA_getb _ _ h17 e2); (simp only [Act.put, List.setIfInBounds_toArray, List.set_cons_zero, List.set_cons_succ]))
        | ((with_reducible show wpList _ _ _ (_ :: _) _ _); (with_reducible apply wpl_storeBH); (· exact cell_bool); (· rfl); (· rfl); (· rfl); (· exact H); (· (repeat (first | (with_reducible exact List.mem_cons_self) | with_reducible apply List.mem_cons_of_mem))); (· (rw [ledA_sz]; omega)); (· exact ledA_set _ _ h17); (· (repeat (first | (with_reducible exact Repl.here) | with_reducible apply Repl.there))); (clear H; intro _ H); (simp only [Act.put, List.setIfInBounds_toArray, List.set_cons_zero, List.set_cons_succ])))
      go_ret
      exact ⟨rfl, H⟩
  · rw [decide_eq_false c1] at m1
    have e0 : openE S (a : Int) = 1 := by unfold openE; rw [if_pos (by omega)]
    have e1 : openS S (a : Int) = S := by unfold openS; rw [if_neg (by omega)]
    rw [e0, e1]
    clear e0 e1
    generalize S.P = P at *
    go_enter Try.func46, Try.ntmps46
    go_wp2_with (first | go_skip | ((with_reducible apply lthere_call H); (· (repeat (first | (with_reducible exact List.mem_cons_self) | with_reducible apply List.mem_cons_of_mem))); (clear H; intro _ H)) | ((with_reducible refine Ans.callH (by assumption) H ?_); clear H; intro _ H))
    go_ret
    exact ⟨rfl, H⟩
theorem lhas_H (a : Nat) (ha : a ≤ 255) (h : LdC p P (some q) ∈ l) (hP : ∀ p ∈ P, 1 ≤ p ∧ p ≤ 16) : AnsH W l 40 #[.pointer (some ⟨p, 0, none⟩), .int .u8 (a : Int)] (.bool (hasP P (a : Int))) := by
  intro w H
  have m1 := lmay_ans a ha
  by_cases c1 : 1 ≤ a ∧ a ≤ 16
  · rw [decide_eq_true c1] at m1
    have h17 : a < 17 := by omega
    clear hP
    go_enter Try.func40, Try.ntmps40
    go_wp2_with (first | go_skip | ((with_reducible apply lthere_call H); (· exact h); (clear H; intro _ H)) | ((with_reducible refine Ans.callH (by assumption) H ?_); clear H; intro _ H) | ((with_reducible show wpList _ _ _ (_ :: _) _ _); (with_reducible apply wpl_loadCH); (· exact cell_bool); (· rfl); (· rfl); (· exact H); (· exact h); (· exact ledA_get _ _ h17); (simp only [Act.put, List.setIfInBounds_toArray, List.set_cons_zero, List.set_cons_succ])))
    go_ret
    exact ⟨rfl, H⟩
  · rw [decide_eq_false c1] at m1
    have e0 : hasP P (a : Int) = false := decide_eq_false fun hm => by have := hP _ hm; omega
    rw [e0]
    clear hP
    go_enter Try.func40, Try.ntmps40
    go_wp2_with (first | go_skip | ((with_reducible apply lthere_call H); (· exact h); (clear H; intro _ H)) | ((with_reducible refine Ans.callH (by assumption) H ?_); clear H; intro _ H))
    go_ret
    exact ⟨rfl, H⟩
theorem key_nat (a b c : Nat) (ha : a ≤ 255) (hb : b ≤ 255) (hc : c ≤ 255) : KL (.agg (ends (a : Int) (b : Int) (c : Int))) := key_ok (by omega) (by omega) (by omega)
end
end Go.Proofs.Ytacglcpjbepfnaa
