/- books: New; the chapter's example. (Printed by a program; see gen/lives04.py.) -/
import Derived.Test.YtacglcpjbepfnaaBok10
namespace Go.Proofs.Ytacglcpjbepfnaa
open Go.RowKit Go.Sort
set_option linter.unusedSimpArgs false
set_option linter.unusedVariables false
set_option maxRecDepth 100000
theorem rat_cells (n d : Int) : Cells 2 (ratA n d) := ⟨rfl, by simp [ratA, Value.oneCell']⟩
theorem rat_splice (n d x y : Int) : splice (ratA n d) 0 (ratA x y) = ratA x y := splice_all rfl
theorem run_buildBk (n : Int) (w : World) : (Instr.build 99 #[(1, .int .u64 n)]).run Try.prog w = .ok (.agg (bkb (.slice none 0 0) n)) w := by kernel_rfl
section
variable {ops : Array Oper} {rest : List Oper} {a : Act} {W w : World} {l : List Thing} {Q : Exit → Act → World → Prop} {dst : Option Tmp} {ty : TypeId} {pos : String} {after : Array Edge} {guard : Option (Nat × Bool)}
theorem wpl_buildBk {x : Operand} {n : Int} (hw : Region.wanted ⟨dst, .build 99 #[(1, x)], ty, pos, after, guard⟩ (yielded ops a.tmps) = true) (hx : a.eval x = .int .u64 n)
    (h : wpList Try.prog ops Q rest (a.put dst (.agg (bkb (.slice none 0 0) n))) w) : wpList Try.prog ops Q (⟨dst, .build 99 #[(1, x)], ty, pos, after, guard⟩ :: rest) a w := by
  refine wpl_pure hw _ (fun w => ?_) h
  unfold execOp
  simp only [List.map_toArray, List.map_cons, List.map_nil, hx, Sem.run_bind, run_buildBk, Result.andThen_ok, Sem.run_pure]
end
abbrev oB1 : Ofr := ⟨1, 1, 1, 2, 10, 3, 2⟩
abbrev oB2 : Ofr := ⟨2, 2, 1, 2, 5, 1, 1⟩
abbrev oB3 : Ofr := ⟨3, 3, 1, 2, 5, 3, 2⟩
abbrev bB0 : Bok := ⟨[], 1⟩
abbrev bB1 : Bok := ⟨[oB1], 2⟩
abbrev bB2 : Bok := ⟨[oB1, oB2], 3⟩
abbrev bB3 : Bok := ⟨[oB1, oB2, oB3], 4⟩
abbrev bB4 : Bok := ⟨[oB1, oB3], 4⟩
abbrev bB5 : Bok := ⟨[oB3], 4⟩
theorem bB_s1 : placeS bB0 1 1 2 10 3 2 = bB1 := by kernel_rfl
theorem bB_e1 : placeE bB0 1 1 2 10 3 2 = 0 := by kernel_rfl
theorem bB_n1 : placeN bB0 1 1 2 10 3 2 = 1 := by kernel_rfl
theorem bB_s2 : placeS bB1 2 1 2 5 1 1 = bB2 := by kernel_rfl
theorem bB_e2 : placeE bB1 2 1 2 5 1 1 = 0 := by kernel_rfl
theorem bB_n2 : placeN bB1 2 1 2 5 1 1 = 2 := by kernel_rfl
theorem bB_s3 : placeS bB2 3 1 2 5 3 2 = bB3 := by kernel_rfl
theorem bB_e3 : placeE bB2 3 1 2 5 3 2 = 0 := by kernel_rfl
theorem bB_n3 : placeN bB2 3 1 2 5 3 2 = 3 := by kernel_rfl
theorem bB_s4 : placeS bB3 1 1 1 5 1 1 = bB3 := by kernel_rfl
theorem bB_e4 : placeE bB3 1 1 1 5 1 1 = 1 := by kernel_rfl
theorem bB_n4 : placeN bB3 1 1 1 5 1 1 = 0 := by kernel_rfl
theorem bB_b1 : bestO bB3.L 1 2 = [oB2, oB1, oB3] := by kernel_rfl
theorem bB_b2 : bestO bB3.L 2 1 = [] := by kernel_rfl
theorem bB_s5 : cancelS bB3 1 2 = bB3 := by kernel_rfl
theorem bB_e5 : cancelE bB3 1 2 = 15 := by kernel_rfl
theorem bB_n5 : cancelN bB3 1 2 = 0 := by kernel_rfl
theorem bB_s6 : cancelS bB3 2 2 = bB4 := by kernel_rfl
theorem bB_e6 : cancelE bB3 2 2 = 0 := by kernel_rfl
theorem bB_n6 : cancelN bB3 2 2 = 5 := by kernel_rfl
theorem bB_s7 : takeS bB4 1 10 = bB5 := by kernel_rfl
theorem bB_e7 : takeE bB4 1 10 = 0 := by kernel_rfl
theorem bB_g0 : bB0.Good := Bok.new_good
theorem bB_g1 : bB1.Good := by have := bB_g0.place 1 1 2 10 3 2; rwa [bB_s1] at this
theorem bB_g2 : bB2.Good := by have := bB_g1.place 2 1 2 5 1 1; rwa [bB_s2] at this
theorem bB_g3 : bB3.Good := by have := bB_g2.place 3 1 2 5 3 2; rwa [bB_s3] at this
theorem bB_g4 : bB4.Good := by have := bB_g3.cancel 2 2; rwa [bB_s6] at this
theorem bB_g5 : bB5.Good := by have := bB_g4.take 1 10; rwa [bB_s7] at this
theorem ofrOk_lit {a b c d e f g : Int} (h : (0 ≤ a ∧ a ≤ 18446744073709551615) ∧ (0 ≤ b ∧ b ≤ 255) ∧ (0 ≤ c ∧ c ≤ 255) ∧ (0 ≤ d ∧ d ≤ 255) ∧ (-9223372036854775808 ≤ e ∧ e ≤ 9223372036854775807) ∧ (-9223372036854775808 ≤ f ∧ f ≤ 9223372036854775807) ∧ (-9223372036854775808 ≤ g ∧ g ≤ 9223372036854775807)) : OfrOk ⟨a, b, c, d, e, f, g⟩ := ⟨h.1, h.2.1, h.2.2.1, h.2.2.2.1, h.2.2.2.2.1, h.2.2.2.2.2.1, h.2.2.2.2.2.2⟩
section
variable {W w : World} {l : List Thing}
set_option maxHeartbeats 8000000
theorem bnew_H (H : Heap W l w) : Calls Try.prog 68 #[] w fun e w' => ∃ p, e = .returned (.pointer (some ⟨p, 0, none⟩)) ∧ Heap W (BkB p (.slice none 0 0) bB0.nx :: OfT (.slice none 0 0) bB0.L.length bB0.L :: l) w' := by
  go_enter Try.func68, Try.ntmps68
  go_wp2_with (first
    | ((with_reducible show wpList _ _ _ (_ :: _) _ _); (with_reducible apply wpl_buildBk); (· rfl); (· rfl); (simp only [Act.put, List.setIfInBounds_toArray, List.set_cons_zero, List.set_cons_succ]))
    | ((with_reducible show wpList _ _ _ (_ :: _) _ _); (with_reducible apply wpl_boxRH); (· rfl); (· rfl); (· exact H); (clear H; intro pb _ H); (simp only [Act.put, List.setIfInBounds_toArray, List.set_cons_zero, List.set_cons_succ]))
    | go_skip)
  go_ret
  exact ⟨_, rfl, (H.nilRow 83 7).perm (.swap _ _ _)⟩
theorem OwnT.formO {w : World} {e size n : Nat} {v : Value} {xs : List Value} (h : (OwnT e size v n xs).ok w) : ∃ a c, v = .slice a n c ∧ n ≤ c ∧ c ≤ maxLen := by
  obtain ⟨a, c, e, _, h1, h2, _⟩ := Own.rd h
  exact ⟨a, c, e, h1, h2⟩
theorem lives04_H (H : Heap W l w) : Calls Try.prog 50 #[] w fun e w' => e = .returned (.bool true) ∧ Heap W l w' := by
  go_enter Try.func50, Try.ntmps50
  go_wp2_with (go_skip)
  refine (bnew_H H).mono ?_
  clear H
  rintro e w1 ⟨p, rfl, H⟩
  go_wp2_with (first
    | ((with_reducible show wpList _ _ _ (_ :: _) _ _); (with_reducible apply wpl_allocRH row_rat); (· rfl); (· exact H); (clear H; intro pa _ H); (simp only [Act.put, List.setIfInBounds_toArray, List.set_cons_zero, List.set_cons_succ]))
    | ((with_reducible show wpList _ _ _ (_ :: _) _ _); (with_reducible apply wpl_storeRH row_rat); (· rfl); (· rfl); (· rfl); (· with_reducible exact rat_cells ..); (· exact H); (· (repeat (first | (with_reducible exact List.mem_cons_self) | with_reducible apply List.mem_cons_of_mem))); (· (simp only [ratA_sz, Nat.reduceAdd, Nat.reduceLeDiff, Nat.le_refl]; done)); (· with_reducible exact rat_splice ..); (· (repeat (first | (with_reducible exact Repl.here) | with_reducible apply Repl.there))); (clear H; intro _ H); (simp only [Act.put, List.setIfInBounds_toArray, List.set_cons_zero, List.set_cons_succ]))
    | ((with_reducible show wpList _ _ _ (_ :: _) _ _); (with_reducible apply wpl_loadRH row_rat); (· rfl); (· rfl); (· exact H); (· (repeat (first | (with_reducible exact List.mem_cons_self) | with_reducible apply List.mem_cons_of_mem))); (· (simp only [ratA_sz, Nat.reduceAdd, Nat.reduceLeDiff, Nat.le_refl]; done)); (· with_reducible exact ratA_all ..); (simp only [Act.put, List.setIfInBounds_toArray, List.set_cons_zero, List.set_cons_succ]))
    | go_skip)
  replace H := H.top2 (.there (.there .here)) (.there (.there .here))
  refine (place_H (p := p) (B := bB0) 1 1 2 10 3 2 (ofrOk_lit (by decide)) bB_g0 H).mono ?_
  clear H
  rintro e w2 ⟨v1, rfl, H⟩
  rw [bB_n1, bB_e1]
  rw [bB_s1] at H
  go_wp2_with (first
    | go_skip
    | ((with_reducible show wpList _ _ _ (_ :: _) _ _); (with_reducible apply wpl_loadRH row_rat); (· rfl); (· rfl); (· exact H); (· (repeat (first | (with_reducible exact List.mem_cons_self) | with_reducible apply List.mem_cons_of_mem))); (· (simp only [ratA_sz, Nat.reduceAdd, Nat.reduceLeDiff, Nat.le_refl]; done)); (· with_reducible exact ratA_all ..); (simp only [Act.put, List.setIfInBounds_toArray, List.set_cons_zero, List.set_cons_succ])))
  refine (place_H (p := p) (B := bB1) 2 1 2 5 1 1 (ofrOk_lit (by decide)) bB_g1 H).mono ?_
  clear H
  rintro e w3 ⟨v2, rfl, H⟩
  rw [bB_n2, bB_e2]
  rw [bB_s2] at H
  go_wp2_with (first
    | go_skip
    | ((with_reducible show wpList _ _ _ (_ :: _) _ _); (with_reducible apply wpl_loadRH row_rat); (· rfl); (· rfl); (· exact H); (· (repeat (first | (with_reducible exact List.mem_cons_self) | with_reducible apply List.mem_cons_of_mem))); (· (simp only [ratA_sz, Nat.reduceAdd, Nat.reduceLeDiff, Nat.le_refl]; done)); (· with_reducible exact ratA_all ..); (simp only [Act.put, List.setIfInBounds_toArray, List.set_cons_zero, List.set_cons_succ])))
  refine (place_H (p := p) (B := bB2) 3 1 2 5 3 2 (ofrOk_lit (by decide)) bB_g2 H).mono ?_
  clear H
  rintro e w4 ⟨v3, rfl, H⟩
  rw [bB_n3, bB_e3]
  rw [bB_s3] at H
  go_wp2_with (first
    | go_skip
    | ((with_reducible show wpList _ _ _ (_ :: _) _ _); (with_reducible apply wpl_loadRH row_rat); (· rfl); (· rfl); (· exact H); (· (repeat (first | (with_reducible exact List.mem_cons_self) | with_reducible apply List.mem_cons_of_mem))); (· (simp only [ratA_sz, Nat.reduceAdd, Nat.reduceLeDiff, Nat.le_refl]; done)); (· with_reducible exact ratA_all ..); (simp only [Act.put, List.setIfInBounds_toArray, List.set_cons_zero, List.set_cons_succ])))
  refine (place_H (p := p) (B := bB3) 1 1 1 5 1 1 (ofrOk_lit (by decide)) bB_g3 H).mono ?_
  clear H
  rintro e w5 ⟨v4, rfl, H⟩
  rw [bB_n4, bB_e4]
  rw [bB_s4] at H
  go_wp2_with (first
    | go_skip
    | ((with_reducible show wpList _ _ _ (_ :: _) _ _); (with_reducible apply wpl_loadRH row_rat); (· rfl); (· rfl); (· exact H); (· (repeat (first | (with_reducible exact List.mem_cons_self) | with_reducible apply List.mem_cons_of_mem))); (· (simp only [ratA_sz, Nat.reduceAdd, Nat.reduceLeDiff, Nat.le_refl]; done)); (· with_reducible exact ratA_all ..); (simp only [Act.put, List.setIfInBounds_toArray, List.set_cons_zero, List.set_cons_succ])))
  refine (best_H (p := p) (B := bB3) 1 2 bB_g3 List.mem_cons_self (List.mem_cons_of_mem _ List.mem_cons_self) H).mono ?_
  clear H
  rintro e w6 ⟨v5, rfl, H⟩
  rw [bB_b1] at H
  obtain ⟨a5, c5, rfl, _, _⟩ := OwnT.formO (H.ok _ List.mem_cons_self)
  have R5 := H.ownRd List.mem_cons_self
  obtain ⟨g5, o5, rfl, _⟩ := R5.lt (by simp [ofrL, ofrV])
  have k0 : w6.cell? ⟨g5, o5, none⟩ = some (.int .u64 2) := by simpa using rd_ofr (k := 0) (j := 0) R5 rfl rfl
  have k1 : w6.cell? ⟨g5, o5 + 7, none⟩ = some (.int .u64 1) := by simpa using rd_ofr (k := 1) (j := 0) R5 rfl rfl
  have k2 : w6.cell? ⟨g5, o5 + 14, none⟩ = some (.int .u64 3) := by simpa using rd_ofr (k := 2) (j := 0) R5 rfl rfl
  clear R5
  go_wp2_with (first
    | go_skip
    | ((with_reducible show wpList _ _ _ (_ :: _) _ _); (with_reducible apply wpl_loadCell cell_u64); (· rfl); (· rfl); (· first | exact k0 | exact k1 | exact k2); (simp only [Act.put, List.setIfInBounds_toArray, List.set_cons_zero, List.set_cons_succ])))
  clear k0 k1 k2
  refine (best_H (p := p) (B := bB3) 2 1 bB_g3 (List.mem_cons_of_mem _ List.mem_cons_self) (List.mem_cons_of_mem _ (List.mem_cons_of_mem _ List.mem_cons_self)) H).mono ?_
  clear H
  rintro e w7 ⟨v6, rfl, H⟩
  rw [bB_b2] at H
  obtain ⟨a6, c6, rfl, _, _⟩ := OwnT.formO (H.ok _ List.mem_cons_self)
  replace H := H.tail.tail
  go_wp2_with (go_skip)
  refine (cancel_H (p := p) (B := bB3) 1 2 bB_g3 H).mono ?_
  clear H
  rintro e w8 ⟨v7, rfl, H⟩
  rw [bB_n5, bB_e5]
  rw [bB_s5] at H
  go_wp2_with (go_skip)
  refine (cancel_H (p := p) (B := bB3) 2 2 bB_g3 H).mono ?_
  clear H
  rintro e w9 ⟨v8, rfl, H⟩
  rw [bB_n6, bB_e6]
  rw [bB_s6] at H
  go_wp2_with (go_skip)
  refine (take_H (p := p) (B := bB4) 1 10 (by omega) bB_g4 H).mono ?_
  clear H
  rintro e w10 ⟨v9, rfl, H⟩
  rw [bB_e7]
  rw [bB_s7] at H
  go_wp2_with (go_skip)
  refine (all_H (p := p) (L := bB5.L) List.mem_cons_self (List.mem_cons_of_mem _ List.mem_cons_self) (by decide) rfl (by decide) H).mono ?_
  clear H
  rintro e w11 ⟨v10, rfl, H⟩
  obtain ⟨a7, c7, rfl, _, _⟩ := OwnT.formO (H.ok _ List.mem_cons_self)
  have R5 := H.ownRd List.mem_cons_self
  obtain ⟨g5, o5, rfl, _⟩ := R5.lt (by simp [ofrL, ofrV])
  have k0 : w11.cell? ⟨g5, o5, none⟩ = some (.int .u64 3) := by simpa using rd_ofr (k := 0) (j := 0) R5 rfl rfl
  clear R5
  go_wp2_with (first
    | go_skip
    | ((with_reducible show wpList _ _ _ (_ :: _) _ _); (with_reducible apply wpl_loadCell cell_u64); (· rfl); (· rfl); (· exact k0); (simp only [Act.put, List.setIfInBounds_toArray, List.set_cons_zero, List.set_cons_succ])))
  go_ret
  exact ⟨rfl, H.tail.tail.tail.tail.tail⟩
end
end Go.Proofs.Ytacglcpjbepfnaa
