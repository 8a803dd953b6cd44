/- ledgers.Ledger: Push, Forgive. -/
import Derived.Test.YtacglcpjbepfnaaLed4
namespace Go.Proofs.Ytacglcpjbepfnaa
open Go.RowKit
set_option linter.unusedSimpArgs false
set_option linter.unusedVariables false
theorem run_field_owe (x y : Int) (w : World) : (Instr.field 120 (.agg #[.int .i64 x, .int .i64 y]) 1).run Try.prog w = .ok (.int .i64 y) w := by
  have hu := Try.underlying120
  have hu2 := Try.underlying2
  unfold Instr.field
  rw [Sem.run_bind, run_underlying hu]
  simp [part, isAgg, run_underlying hu2, asAgg]
attribute [local go_sem high] run_min2 run_field_owe
section
variable {W w : World} {l : List Thing} {p q : Nat} {m : Option Nat} {P : List Int} {S : Lgr} {R : Ending → World → Prop}
theorem Lgr.Good.lim_line (G : S.Good) {cr db cu : Int} (h : 0 < limOf S.L cr db cu) : isLine S.L cr db cu = true := by
  cases hl : isLine S.L cr db cu with
  | true => rfl
  | false => have := (noLine hl).2.1; omega
theorem Lgr.Good.deb_line (G : S.Good) {cr db cu : Int} (h : 0 < debOf S.L cr db cu) : isLine S.L cr db cu = true := G.lim_line (by have := G.nums cr db cu; omega)
set_option maxRecDepth 100000
set_option maxHeartbeats 1000000
theorem lpush_H (f t c : Nat) (n : Int) (hf : f ≤ 255) (ht : t ≤ 255) (hc : c ≤ 255) (hn : -9223372036854775808 ≤ n ∧ n ≤ 9223372036854775807) (G : S.Good) (H : Heap W (LdC p S.P (some q) :: LdM q S.L :: l) w) :
    Calls Try.prog 19 #[.pointer (some ⟨p, 0, none⟩), .int .u8 (f : Int), .int .u8 (t : Int), .int .u8 (c : Int), .int .i64 n] w fun e w' => e = .returned (.int .i64 (pushE S f t c n)) ∧ Heap W (LdC p S.P (some q) :: LdM q (pushS S f t c n).L :: l) w' := by
  by_cases h1 : n < 1
  · have e0 : pushE S f t c n = 1 := by unfold pushE; rw [if_pos h1]
    have e1 : pushS S f t c n = S := by unfold pushS; rw [if_neg (by omega)]
    rw [e0, e1]
    clear e0 e1 hn G
    go_enter Try.func19, Try.ntmps19
    go_wp2_with (first | go_skip | ((with_reducible apply lthere_call H); (· (repeat (first | (with_reducible exact List.mem_cons_self) | with_reducible apply List.mem_cons_of_mem))); (clear H; intro _ H)))
    go_ret
    exact ⟨rfl, H⟩
  · have R := lroom_H (l := LdC p S.P (some q) :: LdM q S.L :: l) (W := W) (p := p) (q := q) f t c hf ht hc G (by (repeat (first | (with_reducible exact List.mem_cons_self) | with_reducible apply List.mem_cons_of_mem))) (by (repeat (first | (with_reducible exact List.mem_cons_self) | with_reducible apply List.mem_cons_of_mem)))
    by_cases h2 : roomOf S f t c < n
    · have e0 : pushE S f t c n = 11 := by unfold pushE; rw [if_neg h1, if_pos h2]
      have e1 : pushS S f t c n = S := by unfold pushS; rw [if_neg (by omega)]
      rw [e0, e1]
      generalize roomOf S f t c = r at *
      clear e0 e1 hn G
      go_enter Try.func19, Try.ntmps19
      go_wp2_with (first | go_skip | ((with_reducible apply lthere_call H); (· (repeat (first | (with_reducible exact List.mem_cons_self) | with_reducible apply List.mem_cons_of_mem))); (clear H; intro _ H)) | ((with_reducible refine AnsH.call (by assumption) H ?_); clear H; intro _ H))
      go_ret
      exact ⟨rfl, H⟩
    · have e0 : pushE S f t c n = 0 := by unfold pushE; rw [if_neg h1, if_neg h2]
      have e1 : (pushS S f t c n).L = addL (addL S.L f t c (-fallOf S f t c n)) t f c (n - fallOf S f t c n) := by unfold pushS; rw [if_pos e0]
      have GA := G.pushA e0
      have nn := G.nums f t c
      have nm := G.nums t f c
      have hroom : n ≤ debOf S.L f t c + limOf S.L t f c - debOf S.L t f c := by unfold roomOf at h2; omega
      have hfall : fallOf S f t c n = min n (debOf S.L f t c) := rfl
      have hz1 : -fallOf S f t c n = 0 ∨ isLine S.L f t c = true := by
        by_cases h : 0 < debOf S.L f t c
        · exact .inr (G.deb_line h)
        · exact .inl (by rw [hfall]; omega)
      have hz2 : n - fallOf S f t c n = 0 ∨ isLine (⟨S.P, addL S.L f t c (-fallOf S f t c n)⟩ : Lgr).L t f c = true := by
        simp only [isLine_add]
        by_cases h : 0 < limOf S.L t f c
        · exact .inr (G.lim_line h)
        · exact .inl (by rw [hfall]; omega)
      have k1 := Lib.hid (key_nat f t c hf ht hc)
      have L1 := Lib.hid (show Look (prs S.L) (keyL f t c) (valL 0 0) (isLine S.L f t c) (.agg #[.int .i64 (limOf S.L f t c), .int .i64 (debOf S.L f t c)]) from look_line G f t c)
      have hfb : 0 ≤ fallOf S f t c n ∧ fallOf S f t c n ≤ n ∧ fallOf S f t c n ≤ 1099511627776 ∧ n - fallOf S f t c n ≤ 1099511627776 := by rw [hfall]; omega
      rw [e0, e1]
      clear e0 e1 hroom nm
      generalize fallOf S f t c n = F at *
      have hmin : min n (debOf S.L f t c) = F := hfall.symm
      have hw1 : wrap64 (-F) = -F := IntWalk.wrap64_in _ ⟨by omega, by omega⟩
      have hw2 : wrap64 (n - F) = n - F := IntWalk.wrap64_in _ ⟨by omega, by omega⟩
      have HB := Lib.hid (show -1099511627776 ≤ -F ∧ -F ≤ 1099511627776 by omega)
      have HB2 := Lib.hid (show -1099511627776 ≤ n - F ∧ n - F ≤ 1099511627776 by omega)
      have HZ1 := Lib.hid hz1
      have HZ2 := Lib.hid hz2
      have HG := Lib.hid G
      have HGA := Lib.hid GA
      clear hfall nn hz1 hz2 G GA hfb
      generalize hd : debOf S.L f t c = d at *
      generalize hx : roomOf S f t c = r at *
      clear hd hx
      go_enter Try.func19, Try.ntmps19
      go_wp2_with (first | go_skip | ((with_reducible apply lthere_call H); (· (repeat (first | (with_reducible exact List.mem_cons_self) | with_reducible apply List.mem_cons_of_mem))); (clear H; intro _ H)) | ((with_reducible refine AnsH.call (by assumption) H ?_); clear H; intro _ H) | ((with_reducible show wpList _ _ _ (_ :: _) _ _); (with_reducible apply wpl_allocRH row_ends); (· rfl); (· exact H); (clear H; intro pe _ H); (simp only [Act.put, List.setIfInBounds_toArray, List.set_cons_zero, List.set_cons_succ])) | ((with_reducible show wpList _ _ _ (_ :: _) _ _); (with_reducible apply wpl_storeRH row_ends); (· rfl); (· rfl); (· rfl); (· with_reducible exact ends_cells ..); (· exact H); (· (repeat (first | (with_reducible exact List.mem_cons_self) | with_reducible apply List.mem_cons_of_mem))); (· (simp only [ends_sz, Nat.reduceAdd, Nat.reduceLeDiff, Nat.le_refl]; done)); (· with_reducible exact ends_splice ..); (· (repeat (first | (with_reducible exact Repl.here) | with_reducible apply Repl.there))); (clear H; intro _ H); (simp only [Act.put, List.setIfInBounds_toArray, List.set_cons_zero, List.set_cons_succ])))
      refine wp_region_H H (by kernel_rfl) (by kernel_rfl) ?_
      repeat (first | go_big_quiet_skip | (first | ((with_reducible apply wpQ_loadCH); (· exact cell_map); (· rfl); (· rfl); (· (repeat (first | (with_reducible exact List.mem_cons_self) | with_reducible apply List.mem_cons_of_mem))); (· exact ledA_map _ _); (simp only [Act.put, List.setIfInBounds_toArray, List.set_cons_zero, List.set_cons_succ])) | ((with_reducible apply wpQ_loadRH row_ends); (· rfl); (· rfl); (· (repeat (first | (with_reducible exact List.mem_cons_self) | with_reducible apply List.mem_cons_of_mem))); (· (simp only [ends_sz, Nat.reduceAdd, Nat.reduceLeDiff, Nat.le_refl]; done)); (· with_reducible exact ends_all ..); (simp only [Act.put, List.setIfInBounds_toArray, List.set_cons_zero, List.set_cons_succ])) | ((with_reducible first | apply wpQ_look0 map_ty | apply wpQ_look1 map_ty); (· rfl); (· rfl); (· rfl); (· exact k1.out); (· (repeat (first | (with_reducible exact List.mem_cons_self) | with_reducible apply List.mem_cons_of_mem))); (· exact L1.out); (simp only [Act.put, List.setIfInBounds_toArray, List.set_cons_zero, List.set_cons_succ]))) | go_big_quiet_step (fail))
      refine wpQuiet_nil ?_
      clear H
      intro _ H
      try rw [hmin]
      go_wp2_with (first | go_skip | ((with_reducible show wpList _ _ _ (_ :: _) _ _); (with_reducible apply wpl_loadRH row_ends); (· rfl); (· rfl); (· exact H); (· (repeat (first | (with_reducible exact List.mem_cons_self) | with_reducible apply List.mem_cons_of_mem))); (· (simp only [ends_sz, Nat.reduceAdd, Nat.reduceLeDiff, Nat.le_refl]; done)); (· with_reducible exact ends_all ..); (simp only [Act.put, List.setIfInBounds_toArray, List.set_cons_zero, List.set_cons_succ])))
      try rw [hw1]
      refine (ladd_H (p := p) (q := q) f t c (-F) hf ht hc HG.out HZ1.out HB.out (H.top2 (.there .here) (.there .here))).mono ?_
      clear H
      rintro e w1 ⟨rfl, H⟩
      go_wp2_with (go_skip)
      try rw [hw2]
      refine (ladd_H (S := ⟨S.P, addL S.L f t c (-F)⟩) (p := p) (q := q) t f c (n - F) ht hf hc HGA.out HZ2.out HB2.out H).mono ?_
      clear H
      rintro e w2 ⟨rfl, H⟩
      go_wp2_with (go_skip)
      go_ret
      exact ⟨rfl, H.drop (.there (.there .here))⟩
theorem lforg_H (f t c : Nat) (n : Int) (hf : f ≤ 255) (ht : t ≤ 255) (hc : c ≤ 255) (hn : -9223372036854775808 ≤ n ∧ n ≤ 9223372036854775807) (G : S.Good) (H : Heap W (LdC p S.P (some q) :: LdM q S.L :: l) w) :
    Calls Try.prog 48 #[.pointer (some ⟨p, 0, none⟩), .int .u8 (f : Int), .int .u8 (t : Int), .int .u8 (c : Int), .int .i64 n] w fun e w' => e = .returned (.int .i64 (forgE S f t c n)) ∧ Heap W (LdC p S.P (some q) :: LdM q (forgS S f t c n).L :: l) w' := by
  have R := lline_H (l := LdC p S.P (some q) :: LdM q S.L :: l) (W := W) (p := p) (q := q) f t c hf ht hc G (by (repeat (first | (with_reducible exact List.mem_cons_self) | with_reducible apply List.mem_cons_of_mem))) (by (repeat (first | (with_reducible exact List.mem_cons_self) | with_reducible apply List.mem_cons_of_mem)))
  cases hl : isLine S.L f t c
  · have e1 : forgS S f t c n = S := by unfold forgS forgE; rw [hl]; split <;> simp_all
    rw [e1]
    rw [hl, show lineC S.L f t c = line 0 0 0 0 0 by unfold lineC; rw [hl]; rfl] at R
    by_cases h1 : n < 1
    · have e0 : forgE S f t c n = 1 := by unfold forgE; rw [if_pos h1]
      rw [e0]
      clear e0 e1 hn G hl
      go_enter Try.func48, Try.ntmps48
      go_wp2_with (first | go_skip | ((with_reducible apply lthere_call H); (· (repeat (first | (with_reducible exact List.mem_cons_self) | with_reducible apply List.mem_cons_of_mem))); (clear H; intro _ H)) | ((with_reducible refine AnsH.call (by assumption) H ?_); clear H; intro _ H) | ((with_reducible show wpList _ _ _ (_ :: _) _ _); (with_reducible apply wpl_allocRH row_line); (· rfl); (· exact H); (clear H; intro pe _ H); (simp only [Act.put, List.setIfInBounds_toArray, List.set_cons_zero, List.set_cons_succ])) | ((with_reducible show wpList _ _ _ (_ :: _) _ _); (with_reducible apply wpl_storeRH row_line); (· rfl); (· rfl); (· rfl); (· with_reducible exact line_cells ..); (· exact H); (· (repeat (first | (with_reducible exact List.mem_cons_self) | with_reducible apply List.mem_cons_of_mem))); (· (simp only [line_sz, Nat.reduceAdd, Nat.reduceLeDiff, Nat.le_refl]; done)); (· with_reducible exact line_splice ..); (· (repeat (first | (with_reducible exact Repl.here) | with_reducible apply Repl.there))); (clear H; intro _ H); (simp only [Act.put, List.setIfInBounds_toArray, List.set_cons_zero, List.set_cons_succ])))
      go_ret
      exact ⟨rfl, H.tail⟩
    · have e0 : forgE S f t c n = 7 := by unfold forgE; rw [if_neg h1, if_pos hl]
      rw [e0]
      clear e0 e1 hn G hl
      go_enter Try.func48, Try.ntmps48
      go_wp2_with (first | go_skip | ((with_reducible apply lthere_call H); (· (repeat (first | (with_reducible exact List.mem_cons_self) | with_reducible apply List.mem_cons_of_mem))); (clear H; intro _ H)) | ((with_reducible refine AnsH.call (by assumption) H ?_); clear H; intro _ H) | ((with_reducible show wpList _ _ _ (_ :: _) _ _); (with_reducible apply wpl_allocRH row_line); (· rfl); (· exact H); (clear H; intro pe _ H); (simp only [Act.put, List.setIfInBounds_toArray, List.set_cons_zero, List.set_cons_succ])) | ((with_reducible show wpList _ _ _ (_ :: _) _ _); (with_reducible apply wpl_storeRH row_line); (· rfl); (· rfl); (· rfl); (· with_reducible exact line_cells ..); (· exact H); (· (repeat (first | (with_reducible exact List.mem_cons_self) | with_reducible apply List.mem_cons_of_mem))); (· (simp only [line_sz, Nat.reduceAdd, Nat.reduceLeDiff, Nat.le_refl]; done)); (· with_reducible exact line_splice ..); (· (repeat (first | (with_reducible exact Repl.here) | with_reducible apply Repl.there))); (clear H; intro _ H); (simp only [Act.put, List.setIfInBounds_toArray, List.set_cons_zero, List.set_cons_succ])))
      go_ret
      exact ⟨rfl, H.tail⟩
  · rw [hl, show lineC S.L f t c = line f t c (limOf S.L f t c) (debOf S.L f t c) by unfold lineC; rw [hl]; rfl] at R
    by_cases h1 : n < 1
    · have e0 : forgE S f t c n = 1 := by unfold forgE; rw [if_pos h1]
      have e1 : forgS S f t c n = S := by unfold forgS; rw [if_neg (by omega)]
      rw [e0, e1]
      clear e0 e1 hn G hl
      go_enter Try.func48, Try.ntmps48
      go_wp2_with (first | go_skip | ((with_reducible apply lthere_call H); (· (repeat (first | (with_reducible exact List.mem_cons_self) | with_reducible apply List.mem_cons_of_mem))); (clear H; intro _ H)) | ((with_reducible refine AnsH.call (by assumption) H ?_); clear H; intro _ H) | ((with_reducible show wpList _ _ _ (_ :: _) _ _); (with_reducible apply wpl_allocRH row_line); (· rfl); (· exact H); (clear H; intro pe _ H); (simp only [Act.put, List.setIfInBounds_toArray, List.set_cons_zero, List.set_cons_succ])) | ((with_reducible show wpList _ _ _ (_ :: _) _ _); (with_reducible apply wpl_storeRH row_line); (· rfl); (· rfl); (· rfl); (· with_reducible exact line_cells ..); (· exact H); (· (repeat (first | (with_reducible exact List.mem_cons_self) | with_reducible apply List.mem_cons_of_mem))); (· (simp only [line_sz, Nat.reduceAdd, Nat.reduceLeDiff, Nat.le_refl]; done)); (· with_reducible exact line_splice ..); (· (repeat (first | (with_reducible exact Repl.here) | with_reducible apply Repl.there))); (clear H; intro _ H); (simp only [Act.put, List.setIfInBounds_toArray, List.set_cons_zero, List.set_cons_succ])))
      go_ret
      exact ⟨rfl, H.tail⟩
    · by_cases h2 : debOf S.L f t c < n
      · have e0 : forgE S f t c n = 14 := by unfold forgE; rw [if_neg h1, if_neg (by rw [hl]; exact fun h => by cases h), if_pos h2]
        have e1 : forgS S f t c n = S := by unfold forgS; rw [if_neg (by omega)]
        rw [e0, e1]
        clear e0 e1 hn G hl
        generalize debOf S.L f t c = d at *
        generalize limOf S.L f t c = x at *
        go_enter Try.func48, Try.ntmps48
        go_wp2_with (first | go_skip | ((with_reducible apply lthere_call H); (· (repeat (first | (with_reducible exact List.mem_cons_self) | with_reducible apply List.mem_cons_of_mem))); (clear H; intro _ H)) | ((with_reducible refine AnsH.call (by assumption) H ?_); clear H; intro _ H) | ((with_reducible show wpList _ _ _ (_ :: _) _ _); (with_reducible apply wpl_allocRH row_line); (· rfl); (· exact H); (clear H; intro pe _ H); (simp only [Act.put, List.setIfInBounds_toArray, List.set_cons_zero, List.set_cons_succ])) | ((with_reducible show wpList _ _ _ (_ :: _) _ _); (with_reducible apply wpl_storeRH row_line); (· rfl); (· rfl); (· rfl); (· with_reducible exact line_cells ..); (· exact H); (· (repeat (first | (with_reducible exact List.mem_cons_self) | with_reducible apply List.mem_cons_of_mem))); (· (simp only [line_sz, Nat.reduceAdd, Nat.reduceLeDiff, Nat.le_refl]; done)); (· with_reducible exact line_splice ..); (· (repeat (first | (with_reducible exact Repl.here) | with_reducible apply Repl.there))); (clear H; intro _ H); (simp only [Act.put, List.setIfInBounds_toArray, List.set_cons_zero, List.set_cons_succ])) | ((with_reducible show wpList _ _ _ (_ :: _) _ _); (with_reducible apply wpl_loadCH); (· exact cell_i64); (· rfl); (· rfl); (· exact H); (· (repeat (first | (with_reducible exact List.mem_cons_self) | with_reducible apply List.mem_cons_of_mem))); (· exact line_g4 ..); (simp only [Act.put, List.setIfInBounds_toArray, List.set_cons_zero, List.set_cons_succ])))
        go_ret
        exact ⟨rfl, H.tail⟩
      · have e0 : forgE S f t c n = 0 := by unfold forgE; rw [if_neg h1, if_neg (by rw [hl]; exact fun h => by cases h), if_neg h2]
        have e1 : (forgS S f t c n).L = addL S.L f t c (-n) := by unfold forgS; rw [if_pos e0]
        rw [e0, e1]
        have nn := G.nums f t c
        have hw1 : wrap64 (-n) = -n := IntWalk.wrap64_in _ ⟨by omega, by omega⟩
        have HB := Lib.hid (show -1099511627776 ≤ -n ∧ -n ≤ 1099511627776 by omega)
        have HZ := Lib.hid (show -n = 0 ∨ isLine S.L f t c = true from .inr hl)
        have HG := Lib.hid G
        clear e0 e1 hn G hl nn
        generalize debOf S.L f t c = d at *
        generalize limOf S.L f t c = x at *
        go_enter Try.func48, Try.ntmps48
        go_wp2_with (first | go_skip | ((with_reducible apply lthere_call H); (· (repeat (first | (with_reducible exact List.mem_cons_self) | with_reducible apply List.mem_cons_of_mem))); (clear H; intro _ H)) | ((with_reducible refine AnsH.call (by assumption) H ?_); clear H; intro _ H) | ((with_reducible show wpList _ _ _ (_ :: _) _ _); (with_reducible apply wpl_allocRH row_line); (· rfl); (· exact H); (clear H; intro pe _ H); (simp only [Act.put, List.setIfInBounds_toArray, List.set_cons_zero, List.set_cons_succ])) | ((with_reducible show wpList _ _ _ (_ :: _) _ _); (with_reducible apply wpl_storeRH row_line); (· rfl); (· rfl); (· rfl); (· with_reducible exact line_cells ..); (· exact H); (· (repeat (first | (with_reducible exact List.mem_cons_self) | with_reducible apply List.mem_cons_of_mem))); (· (simp only [line_sz, Nat.reduceAdd, Nat.reduceLeDiff, Nat.le_refl]; done)); (· with_reducible exact line_splice ..); (· (repeat (first | (with_reducible exact Repl.here) | with_reducible apply Repl.there))); (clear H; intro _ H); (simp only [Act.put, List.setIfInBounds_toArray, List.set_cons_zero, List.set_cons_succ])) | ((with_reducible show wpList _ _ _ (_ :: _) _ _); (with_reducible apply wpl_loadCH); (· exact cell_i64); (· rfl); (· rfl); (· exact H); (· (repeat (first | (with_reducible exact List.mem_cons_self) | with_reducible apply List.mem_cons_of_mem))); (· exact line_g4 ..); (simp only [Act.put, List.setIfInBounds_toArray, List.set_cons_zero, List.set_cons_succ])))
        try rw [hw1]
        refine (ladd_H (p := p) (q := q) f t c (-n) hf ht hc HG.out HZ.out HB.out (H.top2 (.there .here) (.there .here))).mono ?_
        clear H
        rintro e w1 ⟨rfl, H⟩
        go_wp2_with (go_skip)
        go_ret
        exact ⟨rfl, H.drop (.there (.there .here))⟩
end
end Go.Proofs.Ytacglcpjbepfnaa
