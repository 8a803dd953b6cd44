/- Part 6 of what ProofBooksOf stands on: Ref4a, Same4, TwinO, Open, Shape, Leaf, Open04, LawBooksOf. -/
import Derived.Test.YtacglcpjbepfnaaBksOPart5
import Derived.ProofKit
import Derived.OpenShut
import Derived.ChangeOld
import Derived.Test.YtacglcpjbepfnaaProg
import Derived.Lib.SmallJoins
/- countinghouseref04: May, New, Of, Copy. (Printed by gen/ref4a.py.) -/
namespace Go.Proofs.Ytacglcpjbepfnaa
open Go.RowKit
set_option linter.unusedSimpArgs false
set_option linter.unusedVariables false
set_option maxRecDepth 100000
/-- The document's book, in memory. -/
abbrev RBk (p : Nat) (v : Value) (nx : Int) : Thing := Cel p (bkb v nx) 157
theorem run_buildRB2 (a : Option Addr) (n c : Nat) (x : Int) (w : World) : (Instr.build 157 #[(0, .slice a n c), (1, .int .u64 x)]).run Try.prog w = .ok (.agg (bkb (.slice a n c) x)) w := by kernel_rfl
section
variable {ops : Array Oper} {rest : List Oper} {a : Act} {W w : World} {l : List Thing} {Q : Exit → Act → World → Prop} {K : Act → Prop} {dst : Option Tmp} {ty : TypeId} {pos : String} {after : Array Edge} {guard : Option (Nat × Bool)}
theorem wpl_buildRB2 {x y : Operand} {ao : Option Addr} {m c : Nat} {n : Int} (hw : Region.wanted ⟨dst, .build 157 #[(0, x), (1, y)], ty, pos, after, guard⟩ (yielded ops a.tmps) = true) (hx : a.eval x = .slice ao m c) (hy : a.eval y = .int .u64 n)
    (h : wpList Try.prog ops Q rest (a.put dst (.agg (bkb (.slice ao m c) n))) w) : wpList Try.prog ops Q (⟨dst, .build 157 #[(0, x), (1, y)], ty, pos, after, guard⟩ :: rest) a w := by
  refine wpl_pure hw _ (fun w => ?_) h
  unfold execOp
  simp only [List.map_toArray, List.map_cons, List.map_nil, hx, hy, Sem.run_bind, run_buildRB2, Result.andThen_ok, Sem.run_pure]
end
section
variable {W : World} {loud : List Nat} {K : List Thing → Act → Prop} {base l : List Thing} {a : Act} {lo : List Oper} {ks : List Nat} {k : Nat} {dst : Option Tmp} {ty : TypeId} {pos : String} {after : Array Edge}
end
section
variable {W w : World} {l : List Thing}
set_option maxHeartbeats 8000000
theorem rmay4_H (o : Ofr) (hk : OfrOk o) : AnsH W l 113 #[.agg (ofrA o)] (.bool (mayO o)) := by
  intro w H
  obtain ⟨k0, k1, k2, k3, k4, k5, k6⟩ := hk
  by_cases h0 : o.ow < 1
  · have e0 := Lib.hid h0
    have d0_0 : decide (o.ow < 1) = true := decide_eq_true h0
    rw [mayO_no (by omega)]
    clear h0
    go_enter Try.func113, Try.ntmps113
    go_wp2_with (first | go_skip | ((with_reducible show wpList _ _ _ (_ :: _) _ _); (with_reducible apply wpl_boxRH); (· rfl); (· rfl); (· exact H); (clear H; intro px _ H); (simp only [Act.put, List.setIfInBounds_toArray, List.set_cons_zero, List.set_cons_succ])) | ((with_reducible refine Ans.callH (by assumption) H ?_); clear H; intro _ H) | ((with_reducible show wpList _ _ _ (_ :: _) _ _); (with_reducible apply wpl_loadCH); (· first | exact cell_u64 | exact cell_party | exact cell_cur | exact cell_i64); (· rfl); (· rfl); (· exact H); (· (repeat (first | (with_reducible exact List.mem_cons_self) | with_reducible apply List.mem_cons_of_mem))); (· with_reducible first | exact ofr_g0 .. | exact ofr_g1 .. | exact ofr_g2 .. | exact ofr_g3 .. | exact ofr_g4 ..); (simp only [Act.put, List.setIfInBounds_toArray, List.set_cons_zero, List.set_cons_succ])) | ((with_reducible show wpList _ _ _ (_ :: _) _ _); (with_reducible apply wpl_loadRH row_rat); (· rfl); (· rfl); (· exact H); (· (repeat (first | (with_reducible exact List.mem_cons_self) | with_reducible apply List.mem_cons_of_mem))); (· (simp only [ofrA_sz, Nat.reduceAdd, Nat.reduceLeDiff, Nat.le_refl]; done)); (· with_reducible exact ofr_rat ..); (simp only [Act.put, List.setIfInBounds_toArray, List.set_cons_zero, List.set_cons_succ])))
    go_ret
    exact ⟨rfl, H.tail⟩
  · skip
    have d0_0 : decide (o.ow < 1) = false := decide_eq_false h0
    by_cases h1 : 16 < o.ow
    · have e1 := Lib.hid h1
      have d1_0 : decide (o.ow > 16) = true := decide_eq_true h1
      have d1_1 : decide (16 < o.ow) = true := decide_eq_true h1
      rw [mayO_no (by omega)]
      clear h0 h1
      go_enter Try.func113, Try.ntmps113
      go_wp2_with (first | go_skip | ((with_reducible show wpList _ _ _ (_ :: _) _ _); (with_reducible apply wpl_boxRH); (· rfl); (· rfl); (· exact H); (clear H; intro px _ H); (simp only [Act.put, List.setIfInBounds_toArray, List.set_cons_zero, List.set_cons_succ])) | ((with_reducible refine Ans.callH (by assumption) H ?_); clear H; intro _ H) | ((with_reducible show wpList _ _ _ (_ :: _) _ _); (with_reducible apply wpl_loadCH); (· first | exact cell_u64 | exact cell_party | exact cell_cur | exact cell_i64); (· rfl); (· rfl); (· exact H); (· (repeat (first | (with_reducible exact List.mem_cons_self) | with_reducible apply List.mem_cons_of_mem))); (· with_reducible first | exact ofr_g0 .. | exact ofr_g1 .. | exact ofr_g2 .. | exact ofr_g3 .. | exact ofr_g4 ..); (simp only [Act.put, List.setIfInBounds_toArray, List.set_cons_zero, List.set_cons_succ])) | ((with_reducible show wpList _ _ _ (_ :: _) _ _); (with_reducible apply wpl_loadRH row_rat); (· rfl); (· rfl); (· exact H); (· (repeat (first | (with_reducible exact List.mem_cons_self) | with_reducible apply List.mem_cons_of_mem))); (· (simp only [ofrA_sz, Nat.reduceAdd, Nat.reduceLeDiff, Nat.le_refl]; done)); (· with_reducible exact ofr_rat ..); (simp only [Act.put, List.setIfInBounds_toArray, List.set_cons_zero, List.set_cons_succ])))
      go_ret
      exact ⟨rfl, H.tail⟩
    · skip
      have d1_0 : decide (o.ow > 16) = false := decide_eq_false h1
      have d1_1 : decide (16 < o.ow) = false := decide_eq_false h1
      by_cases h2 : o.se < 1
      · have e2 := Lib.hid h2
        have d2_0 : decide (o.se < 1) = true := decide_eq_true h2
        rw [mayO_no (by omega)]
        clear h0 h1 h2
        go_enter Try.func113, Try.ntmps113
        go_wp2_with (first | go_skip | ((with_reducible show wpList _ _ _ (_ :: _) _ _); (with_reducible apply wpl_boxRH); (· rfl); (· rfl); (· exact H); (clear H; intro px _ H); (simp only [Act.put, List.setIfInBounds_toArray, List.set_cons_zero, List.set_cons_succ])) | ((with_reducible refine Ans.callH (by assumption) H ?_); clear H; intro _ H) | ((with_reducible show wpList _ _ _ (_ :: _) _ _); (with_reducible apply wpl_loadCH); (· first | exact cell_u64 | exact cell_party | exact cell_cur | exact cell_i64); (· rfl); (· rfl); (· exact H); (· (repeat (first | (with_reducible exact List.mem_cons_self) | with_reducible apply List.mem_cons_of_mem))); (· with_reducible first | exact ofr_g0 .. | exact ofr_g1 .. | exact ofr_g2 .. | exact ofr_g3 .. | exact ofr_g4 ..); (simp only [Act.put, List.setIfInBounds_toArray, List.set_cons_zero, List.set_cons_succ])) | ((with_reducible show wpList _ _ _ (_ :: _) _ _); (with_reducible apply wpl_loadRH row_rat); (· rfl); (· rfl); (· exact H); (· (repeat (first | (with_reducible exact List.mem_cons_self) | with_reducible apply List.mem_cons_of_mem))); (· (simp only [ofrA_sz, Nat.reduceAdd, Nat.reduceLeDiff, Nat.le_refl]; done)); (· with_reducible exact ofr_rat ..); (simp only [Act.put, List.setIfInBounds_toArray, List.set_cons_zero, List.set_cons_succ])))
        go_ret
        exact ⟨rfl, H.tail⟩
      · skip
        have d2_0 : decide (o.se < 1) = false := decide_eq_false h2
        by_cases h3 : 8 < o.se
        · have e3 := Lib.hid h3
          have d3_0 : decide (o.se > 8) = true := decide_eq_true h3
          have d3_1 : decide (8 < o.se) = true := decide_eq_true h3
          rw [mayO_no (by omega)]
          clear h0 h1 h2 h3
          go_enter Try.func113, Try.ntmps113
          go_wp2_with (first | go_skip | ((with_reducible show wpList _ _ _ (_ :: _) _ _); (with_reducible apply wpl_boxRH); (· rfl); (· rfl); (· exact H); (clear H; intro px _ H); (simp only [Act.put, List.setIfInBounds_toArray, List.set_cons_zero, List.set_cons_succ])) | ((with_reducible refine Ans.callH (by assumption) H ?_); clear H; intro _ H) | ((with_reducible show wpList _ _ _ (_ :: _) _ _); (with_reducible apply wpl_loadCH); (· first | exact cell_u64 | exact cell_party | exact cell_cur | exact cell_i64); (· rfl); (· rfl); (· exact H); (· (repeat (first | (with_reducible exact List.mem_cons_self) | with_reducible apply List.mem_cons_of_mem))); (· with_reducible first | exact ofr_g0 .. | exact ofr_g1 .. | exact ofr_g2 .. | exact ofr_g3 .. | exact ofr_g4 ..); (simp only [Act.put, List.setIfInBounds_toArray, List.set_cons_zero, List.set_cons_succ])) | ((with_reducible show wpList _ _ _ (_ :: _) _ _); (with_reducible apply wpl_loadRH row_rat); (· rfl); (· rfl); (· exact H); (· (repeat (first | (with_reducible exact List.mem_cons_self) | with_reducible apply List.mem_cons_of_mem))); (· (simp only [ofrA_sz, Nat.reduceAdd, Nat.reduceLeDiff, Nat.le_refl]; done)); (· with_reducible exact ofr_rat ..); (simp only [Act.put, List.setIfInBounds_toArray, List.set_cons_zero, List.set_cons_succ])))
          go_ret
          exact ⟨rfl, H.tail⟩
        · skip
          have d3_0 : decide (o.se > 8) = false := decide_eq_false h3
          have d3_1 : decide (8 < o.se) = false := decide_eq_false h3
          by_cases h4 : o.bu < 1
          · have e4 := Lib.hid h4
            have d4_0 : decide (o.bu < 1) = true := decide_eq_true h4
            rw [mayO_no (by omega)]
            clear h0 h1 h2 h3 h4
            go_enter Try.func113, Try.ntmps113
            go_wp2_with (first | go_skip | ((with_reducible show wpList _ _ _ (_ :: _) _ _); (with_reducible apply wpl_boxRH); (· rfl); (· rfl); (· exact H); (clear H; intro px _ H); (simp only [Act.put, List.setIfInBounds_toArray, List.set_cons_zero, List.set_cons_succ])) | ((with_reducible refine Ans.callH (by assumption) H ?_); clear H; intro _ H) | ((with_reducible show wpList _ _ _ (_ :: _) _ _); (with_reducible apply wpl_loadCH); (· first | exact cell_u64 | exact cell_party | exact cell_cur | exact cell_i64); (· rfl); (· rfl); (· exact H); (· (repeat (first | (with_reducible exact List.mem_cons_self) | with_reducible apply List.mem_cons_of_mem))); (· with_reducible first | exact ofr_g0 .. | exact ofr_g1 .. | exact ofr_g2 .. | exact ofr_g3 .. | exact ofr_g4 ..); (simp only [Act.put, List.setIfInBounds_toArray, List.set_cons_zero, List.set_cons_succ])) | ((with_reducible show wpList _ _ _ (_ :: _) _ _); (with_reducible apply wpl_loadRH row_rat); (· rfl); (· rfl); (· exact H); (· (repeat (first | (with_reducible exact List.mem_cons_self) | with_reducible apply List.mem_cons_of_mem))); (· (simp only [ofrA_sz, Nat.reduceAdd, Nat.reduceLeDiff, Nat.le_refl]; done)); (· with_reducible exact ofr_rat ..); (simp only [Act.put, List.setIfInBounds_toArray, List.set_cons_zero, List.set_cons_succ])))
            go_ret
            exact ⟨rfl, H.tail⟩
          · skip
            have d4_0 : decide (o.bu < 1) = false := decide_eq_false h4
            by_cases h5 : 8 < o.bu
            · have e5 := Lib.hid h5
              have d5_0 : decide (o.bu > 8) = true := decide_eq_true h5
              have d5_1 : decide (8 < o.bu) = true := decide_eq_true h5
              rw [mayO_no (by omega)]
              clear h0 h1 h2 h3 h4 h5
              go_enter Try.func113, Try.ntmps113
              go_wp2_with (first | go_skip | ((with_reducible show wpList _ _ _ (_ :: _) _ _); (with_reducible apply wpl_boxRH); (· rfl); (· rfl); (· exact H); (clear H; intro px _ H); (simp only [Act.put, List.setIfInBounds_toArray, List.set_cons_zero, List.set_cons_succ])) | ((with_reducible refine Ans.callH (by assumption) H ?_); clear H; intro _ H) | ((with_reducible show wpList _ _ _ (_ :: _) _ _); (with_reducible apply wpl_loadCH); (· first | exact cell_u64 | exact cell_party | exact cell_cur | exact cell_i64); (· rfl); (· rfl); (· exact H); (· (repeat (first | (with_reducible exact List.mem_cons_self) | with_reducible apply List.mem_cons_of_mem))); (· with_reducible first | exact ofr_g0 .. | exact ofr_g1 .. | exact ofr_g2 .. | exact ofr_g3 .. | exact ofr_g4 ..); (simp only [Act.put, List.setIfInBounds_toArray, List.set_cons_zero, List.set_cons_succ])) | ((with_reducible show wpList _ _ _ (_ :: _) _ _); (with_reducible apply wpl_loadRH row_rat); (· rfl); (· rfl); (· exact H); (· (repeat (first | (with_reducible exact List.mem_cons_self) | with_reducible apply List.mem_cons_of_mem))); (· (simp only [ofrA_sz, Nat.reduceAdd, Nat.reduceLeDiff, Nat.le_refl]; done)); (· with_reducible exact ofr_rat ..); (simp only [Act.put, List.setIfInBounds_toArray, List.set_cons_zero, List.set_cons_succ])))
              go_ret
              exact ⟨rfl, H.tail⟩
            · skip
              have d5_0 : decide (o.bu > 8) = false := decide_eq_false h5
              have d5_1 : decide (8 < o.bu) = false := decide_eq_false h5
              by_cases h6 : o.se = o.bu
              · have d6 : (o.se != o.bu) = false := by simp [h6]
                have d6_1 : (o.se == o.bu) = true := by simp [h6]
                rw [mayO_no (by omega)]
                clear h0 h1 h2 h3 h4 h5 h6
                go_enter Try.func113, Try.ntmps113
                go_wp2_with (first | go_skip | ((with_reducible show wpList _ _ _ (_ :: _) _ _); (with_reducible apply wpl_boxRH); (· rfl); (· rfl); (· exact H); (clear H; intro px _ H); (simp only [Act.put, List.setIfInBounds_toArray, List.set_cons_zero, List.set_cons_succ])) | ((with_reducible refine Ans.callH (by assumption) H ?_); clear H; intro _ H) | ((with_reducible show wpList _ _ _ (_ :: _) _ _); (with_reducible apply wpl_loadCH); (· first | exact cell_u64 | exact cell_party | exact cell_cur | exact cell_i64); (· rfl); (· rfl); (· exact H); (· (repeat (first | (with_reducible exact List.mem_cons_self) | with_reducible apply List.mem_cons_of_mem))); (· with_reducible first | exact ofr_g0 .. | exact ofr_g1 .. | exact ofr_g2 .. | exact ofr_g3 .. | exact ofr_g4 ..); (simp only [Act.put, List.setIfInBounds_toArray, List.set_cons_zero, List.set_cons_succ])) | ((with_reducible show wpList _ _ _ (_ :: _) _ _); (with_reducible apply wpl_loadRH row_rat); (· rfl); (· rfl); (· exact H); (· (repeat (first | (with_reducible exact List.mem_cons_self) | with_reducible apply List.mem_cons_of_mem))); (· (simp only [ofrA_sz, Nat.reduceAdd, Nat.reduceLeDiff, Nat.le_refl]; done)); (· with_reducible exact ofr_rat ..); (simp only [Act.put, List.setIfInBounds_toArray, List.set_cons_zero, List.set_cons_succ])))
                go_ret
                exact ⟨rfl, H.tail⟩
              · have d6 : (o.se != o.bu) = true := by simp [h6]
                have d6_1 : (o.se == o.bu) = false := by simp [h6]
                by_cases h7 : 1 ≤ o.le
                · have d7 : decide (o.le ≥ 1) = true := decide_eq_true h7
                  have d7_1 : decide (1 ≤ o.le) = true := decide_eq_true h7
                  by_cases h8 : o.le ≤ 1099511627776
                  · have d8 : decide (o.le ≤ 1099511627776) = true := decide_eq_true h8
                    rw [mayO_rat ⟨by omega, by omega, by omega, h6, h7, h8⟩]
                    have c8 := rmay_ans o.nu o.de ⟨k5.1, k5.2, k6.1, k6.2⟩
                    clear h0 h1 h2 h3 h4 h5 h6 h7 h8
                    go_enter Try.func113, Try.ntmps113
                    go_wp2_with (first | go_skip | ((with_reducible show wpList _ _ _ (_ :: _) _ _); (with_reducible apply wpl_boxRH); (· rfl); (· rfl); (· exact H); (clear H; intro px _ H); (simp only [Act.put, List.setIfInBounds_toArray, List.set_cons_zero, List.set_cons_succ])) | ((with_reducible refine Ans.callH (by assumption) H ?_); clear H; intro _ H) | ((with_reducible show wpList _ _ _ (_ :: _) _ _); (with_reducible apply wpl_loadCH); (· first | exact cell_u64 | exact cell_party | exact cell_cur | exact cell_i64); (· rfl); (· rfl); (· exact H); (· (repeat (first | (with_reducible exact List.mem_cons_self) | with_reducible apply List.mem_cons_of_mem))); (· with_reducible first | exact ofr_g0 .. | exact ofr_g1 .. | exact ofr_g2 .. | exact ofr_g3 .. | exact ofr_g4 ..); (simp only [Act.put, List.setIfInBounds_toArray, List.set_cons_zero, List.set_cons_succ])) | ((with_reducible show wpList _ _ _ (_ :: _) _ _); (with_reducible apply wpl_loadRH row_rat); (· rfl); (· rfl); (· exact H); (· (repeat (first | (with_reducible exact List.mem_cons_self) | with_reducible apply List.mem_cons_of_mem))); (· (simp only [ofrA_sz, Nat.reduceAdd, Nat.reduceLeDiff, Nat.le_refl]; done)); (· with_reducible exact ofr_rat ..); (simp only [Act.put, List.setIfInBounds_toArray, List.set_cons_zero, List.set_cons_succ])))
                    go_ret
                    exact ⟨rfl, H.tail⟩
                  · have d8 : decide (o.le ≤ 1099511627776) = false := decide_eq_false h8
                    rw [mayO_no (by omega)]
                    clear h0 h1 h2 h3 h4 h5 h6 h7 h8
                    go_enter Try.func113, Try.ntmps113
                    go_wp2_with (first | go_skip | ((with_reducible show wpList _ _ _ (_ :: _) _ _); (with_reducible apply wpl_boxRH); (· rfl); (· rfl); (· exact H); (clear H; intro px _ H); (simp only [Act.put, List.setIfInBounds_toArray, List.set_cons_zero, List.set_cons_succ])) | ((with_reducible refine Ans.callH (by assumption) H ?_); clear H; intro _ H) | ((with_reducible show wpList _ _ _ (_ :: _) _ _); (with_reducible apply wpl_loadCH); (· first | exact cell_u64 | exact cell_party | exact cell_cur | exact cell_i64); (· rfl); (· rfl); (· exact H); (· (repeat (first | (with_reducible exact List.mem_cons_self) | with_reducible apply List.mem_cons_of_mem))); (· with_reducible first | exact ofr_g0 .. | exact ofr_g1 .. | exact ofr_g2 .. | exact ofr_g3 .. | exact ofr_g4 ..); (simp only [Act.put, List.setIfInBounds_toArray, List.set_cons_zero, List.set_cons_succ])) | ((with_reducible show wpList _ _ _ (_ :: _) _ _); (with_reducible apply wpl_loadRH row_rat); (· rfl); (· rfl); (· exact H); (· (repeat (first | (with_reducible exact List.mem_cons_self) | with_reducible apply List.mem_cons_of_mem))); (· (simp only [ofrA_sz, Nat.reduceAdd, Nat.reduceLeDiff, Nat.le_refl]; done)); (· with_reducible exact ofr_rat ..); (simp only [Act.put, List.setIfInBounds_toArray, List.set_cons_zero, List.set_cons_succ])))
                    go_ret
                    exact ⟨rfl, H.tail⟩
                · have d7 : decide (o.le ≥ 1) = false := decide_eq_false h7
                  have d7_1 : decide (1 ≤ o.le) = false := decide_eq_false h7
                  rw [mayO_no (by omega)]
                  clear h0 h1 h2 h3 h4 h5 h6 h7
                  go_enter Try.func113, Try.ntmps113
                  go_wp2_with (first | go_skip | ((with_reducible show wpList _ _ _ (_ :: _) _ _); (with_reducible apply wpl_boxRH); (· rfl); (· rfl); (· exact H); (clear H; intro px _ H); (simp only [Act.put, List.setIfInBounds_toArray, List.set_cons_zero, List.set_cons_succ])) | ((with_reducible refine Ans.callH (by assumption) H ?_); clear H; intro _ H) | ((with_reducible show wpList _ _ _ (_ :: _) _ _); (with_reducible apply wpl_loadCH); (· first | exact cell_u64 | exact cell_party | exact cell_cur | exact cell_i64); (· rfl); (· rfl); (· exact H); (· (repeat (first | (with_reducible exact List.mem_cons_self) | with_reducible apply List.mem_cons_of_mem))); (· with_reducible first | exact ofr_g0 .. | exact ofr_g1 .. | exact ofr_g2 .. | exact ofr_g3 .. | exact ofr_g4 ..); (simp only [Act.put, List.setIfInBounds_toArray, List.set_cons_zero, List.set_cons_succ])) | ((with_reducible show wpList _ _ _ (_ :: _) _ _); (with_reducible apply wpl_loadRH row_rat); (· rfl); (· rfl); (· exact H); (· (repeat (first | (with_reducible exact List.mem_cons_self) | with_reducible apply List.mem_cons_of_mem))); (· (simp only [ofrA_sz, Nat.reduceAdd, Nat.reduceLeDiff, Nat.le_refl]; done)); (· with_reducible exact ofr_rat ..); (simp only [Act.put, List.setIfInBounds_toArray, List.set_cons_zero, List.set_cons_succ])))
                  go_ret
                  exact ⟨rfl, H.tail⟩
/-- What Of answers. -/
def ROfPost (W : World) (l : List Thing) (L : List Ofr) (n : Nat) (nx : Int) (e : Ending) (w' : World) : Prop :=
  (ofE L nx = 0 ∧ ∃ p a c, e = .returned (.tuple #[.pointer (some ⟨p, 0, none⟩), .int .i64 0]) ∧ Heap W (RBk p (.slice a n c) nx :: OfT (.slice a n c) n L :: l) w') ∨ (ofE L nx ≠ 0 ∧ e = .returned (.tuple #[.pointer none, .int .i64 (ofE L nx)]) ∧ Heap W l w')
structure ROfR (W : World) (l : List Thing) (L : List Ofr) (nx : Int) (n : Nat) (i : Value) (wr : World) : Prop where
  out : ∃ (k : Nat) (z : Int), k ≤ n ∧ i = .int .i64 (k : Int) ∧ 0 ≤ z ∧ (k = 0 → z = 0) ∧ (0 < k → z < nx ∧ ∃ o, L[k - 1]? = some o ∧ o.sq = z) ∧ okO nx 0 L = okO nx z (L.drop k) ∧ Heap W l wr
theorem okO_small {nx s : Int} {M : List Ofr} (h : nx ≤ s) : okO nx s M = false := by
  cases h2 : okO nx s M with
  | false => rfl
  | true => have := (okO_iff.1 h2).2.2; omega
theorem rof4_H (ea : Option Addr) (n ec : Nat) (L : List Ofr) (nx : Int) (hl : L.length = n) (hn : n ≤ 1000000) (hnx : 0 ≤ nx) (hL : ∀ o ∈ L, OfrOk o) (R : ∀ l' w', (∀ x ∈ l, x ∈ l') → Heap W l' w' → Rd w' ea (ofrL L)) (H : Heap W l w) :
    Calls Try.prog 64 #[.slice ea n ec, .int .u64 nx] w (ROfPost W l L n nx) := by
  have HE := Lib.hid (ofE_ok L nx)
  have HL := Lib.hid hl
  have HK := Lib.hid hL
  have HR := Lib.hid R
  have hl2 := hl
  clear hL R hl
  by_cases hbig : 32 < n
  · have d1 : decide ((n : Int) > 32) = true := decide_eq_true (by omega)
    have d2 : decide (32 < (n : Int)) = true := decide_eq_true (by omega)
    go_enter Try.func64, Try.ntmps64
    go_wp2_with (go_skip)
    go_ret2
    have e1 : ofE L nx = 9 := by rw [HE.out, if_pos (by rw [HL.out]; exact hbig)]
    exact .inr ⟨by rw [e1]; decide, by rw [e1]; rfl, H⟩
  · have d1 : decide ((n : Int) > 32) = false := decide_eq_false (by omega)
    have d2 : decide (32 < (n : Int)) = false := decide_eq_false (by omega)
    have HE2 := Lib.hid (show ofE L nx = if okO nx 0 L = true then 0 else 1 by rw [HE.out, if_neg (by rw [HL.out]; exact hbig)])
    have hlen : (ofrL L).length = n * 7 := by rw [ofrL_len, HL.out]
    have hn1 : 0 + n ≤ maxLen := by unfold maxLen; omega
    have hn2 : (0 + n) * 40 ≤ 140737488355328 := by omega
    clear hbig hl2 HE
    go_enter Try.func64, Try.ntmps64
    go_wp2_with (go_skip)
    have H0 := H
    clear H
    go_loopw [6] (fun i wr => ROfR W l L nx n i wr) (fun i _ => n - (intOf i).toNat)
    case atStart => exact ⟨0, 0, Nat.zero_le _, rfl, Int.le_refl _, fun _ => rfl, fun h => absurd h (by omega), rfl, H0⟩
    case round =>
      obtain ⟨k, z, hk, rfl, hz0, hz1, hz2, hz, H⟩ := hrel.out
      clear H0 hrel
      by_cases hlt : k < n
      · have hkL : k < L.length := by rw [HL.out]; exact hlt
        have hrow := ofrL_get L k hkL
        have hlen1 : k * 7 + 7 ≤ (ofrL L).length := by rw [ofrL_len]; omega
        have hok := HK.out L[k] (List.getElem_mem hkL)
        have hgk : L[k]? = some L[k] := List.getElem?_eq_getElem hkL
        rw [List.drop_eq_getElem_cons hkL, okO] at hz
        generalize L[k] = x at *
        have M := fun l' => rmay4_H (W := W) (l := l') x hok
        obtain ⟨ba, oa, rfl, _⟩ := (HR.out _ _ (fun _ h => h) H).lt (by omega)
        have hx0 := hok.1.1
        have HR2 := Lib.hid (fun w' (H' : Heap W l w') => HR.out l w' (fun _ h => h) H')
        have HS := Lib.hid (fun w' (H' : Heap W l w') => rd_ofr (HR2.out w' H') hgk (j := 0) rfl)
        have HGK := Lib.hid (And.intro hgk hkL)
        clear hkL hgk hok
        cases hb : mayO x with
        | false =>
          rw [hb] at M
          have HZ := Lib.hid (show okO nx 0 L = false by rw [hz, hb]; rfl)
          clear hz hz0 hz1 hz2 hx0 hb
          go_wp2_with (go_skip)
          refine wp_region_H H (by kernel_rfl) (by kernel_rfl) ?_
          repeat (first | go_big_quiet_skip | (first | ((with_reducible apply wpQ_loadRdR row_ofr); (· rfl); (· rfl); (· exact HR2.out); (· first | rfl | exact (Nat.add_zero _).symm); (· exact hlen1); (· decide); (· exact hrow); (simp only [Act.put, List.setIfInBounds_toArray, List.set_cons_zero, List.set_cons_succ])) | ((with_reducible apply wpQ_loadCell cell_u64); (· rfl); (· rfl); (· exact HS.out); (simp only [Act.put, List.setIfInBounds_toArray, List.set_cons_zero, List.set_cons_succ]))) | go_big_quiet_step (((with_reducible exact AnsH.quiet (M _)))))
          refine wpQuiet_nil ?_
          clear H
          intro _ H
          go_wp2_with (go_skip)
          go_ret2
          have e1 : ofE L nx = 1 := by rw [HE2.out, HZ.out]; rfl
          exact .inr ⟨by rw [e1]; decide, by rw [e1]; rfl, H⟩
        | true =>
          rw [hb] at M
          by_cases hs0 : x.sq = 0
          · have d3 : (x.sq == 0) = true := by simp [hs0]
            have HZ := Lib.hid (show okO nx 0 L = false by rw [hz, hb, decide_eq_false (by omega)]; rfl)
            clear hz hz0 hz1 hz2 hx0 hb hs0
            go_wp2_with (go_skip)
            refine wp_region_H H (by kernel_rfl) (by kernel_rfl) ?_
            repeat (first | go_big_quiet_skip | (first | ((with_reducible apply wpQ_loadRdR row_ofr); (· rfl); (· rfl); (· exact HR2.out); (· first | rfl | exact (Nat.add_zero _).symm); (· exact hlen1); (· decide); (· exact hrow); (simp only [Act.put, List.setIfInBounds_toArray, List.set_cons_zero, List.set_cons_succ])) | ((with_reducible apply wpQ_loadCell cell_u64); (· rfl); (· rfl); (· exact HS.out); (simp only [Act.put, List.setIfInBounds_toArray, List.set_cons_zero, List.set_cons_succ]))) | go_big_quiet_step (((with_reducible exact AnsH.quiet (M _)))))
            refine wpQuiet_nil ?_
            clear H
            intro _ H
            go_wp2_with (go_skip)
            go_ret2
            have e1 : ofE L nx = 1 := by rw [HE2.out, HZ.out]; rfl
            exact .inr ⟨by rw [e1]; decide, by rw [e1]; rfl, H⟩
          · have d3 : (x.sq == 0) = false := by simp [hs0]
            by_cases hk0 : k = 0
            · have d4 : decide ((k : Int) > 0) = false := decide_eq_false (by omega)
              have d5 : decide (0 < (k : Int)) = false := decide_eq_false (by omega)
              have d8 : decide (0 < k) = false := decide_eq_false (by omega)
              by_cases hs2 : nx ≤ x.sq
              · have d6 : decide (x.sq ≥ nx) = true := decide_eq_true hs2
                have d7 : decide (nx ≤ x.sq) = true := decide_eq_true hs2
                have HZ := Lib.hid (show okO nx 0 L = false by rw [hz, okO_small hs2]; simp)
                clear hz hz0 hz1 hz2 hx0 hb hs0 hs2 hk0
                go_wp2_with (go_skip)
                refine wp_region_H H (by kernel_rfl) (by kernel_rfl) ?_
                repeat (first | go_big_quiet_skip | (first | ((with_reducible apply wpQ_loadRdR row_ofr); (· rfl); (· rfl); (· exact HR2.out); (· first | rfl | exact (Nat.add_zero _).symm); (· exact hlen1); (· decide); (· exact hrow); (simp only [Act.put, List.setIfInBounds_toArray, List.set_cons_zero, List.set_cons_succ])) | ((with_reducible apply wpQ_loadCell cell_u64); (· rfl); (· rfl); (· exact HS.out); (simp only [Act.put, List.setIfInBounds_toArray, List.set_cons_zero, List.set_cons_succ]))) | go_big_quiet_step (((with_reducible exact AnsH.quiet (M _)))))
                refine wpQuiet_nil ?_
                clear H
                intro _ H
                go_wp2_with (go_skip)
                go_ret2
                have e1 : ofE L nx = 1 := by rw [HE2.out, HZ.out]; rfl
                exact .inr ⟨by rw [e1]; decide, by rw [e1]; rfl, H⟩
              · have d6 : decide (x.sq ≥ nx) = false := decide_eq_false hs2
                have d7 : decide (nx ≤ x.sq) = false := decide_eq_false hs2
                have HZ := Lib.hid (show 0 ≤ x.sq ∧ x.sq < nx ∧ okO nx 0 L = okO nx x.sq (L.drop (k + 1)) from ⟨hx0, by omega, by rw [hz, hb, decide_eq_true (by have := hz1 hk0; omega)]; simp⟩)
                clear hz hz0 hz1 hz2 hx0 hb hs0 hs2 hk0
                go_wp2_with (go_skip)
                refine wp_region_H H (by kernel_rfl) (by kernel_rfl) ?_
                repeat (first | go_big_quiet_skip | (first | ((with_reducible apply wpQ_loadRdR row_ofr); (· rfl); (· rfl); (· exact HR2.out); (· first | rfl | exact (Nat.add_zero _).symm); (· exact hlen1); (· decide); (· exact hrow); (simp only [Act.put, List.setIfInBounds_toArray, List.set_cons_zero, List.set_cons_succ])) | ((with_reducible apply wpQ_loadCell cell_u64); (· rfl); (· rfl); (· exact HS.out); (simp only [Act.put, List.setIfInBounds_toArray, List.set_cons_zero, List.set_cons_succ]))) | go_big_quiet_step (((with_reducible exact AnsH.quiet (M _)))))
                refine wpQuiet_nil ?_
                clear H
                intro _ H
                go_wp2_with (go_skip)
                refine ⟨⟨k + 1, x.sq, by omega, by go_num, HZ.out.1, (fun h => absurd h (by omega)), (fun _ => ⟨HZ.out.2.1, x, HGK.out.1, rfl⟩), HZ.out.2.2, H⟩, ?measure⟩
                case measure => simp [intOf]; omega
            · have d4 : decide ((k : Int) > 0) = true := decide_eq_true (by omega)
              have d5 : decide (0 < (k : Int)) = true := decide_eq_true (by omega)
              have d8 : decide (0 < k) = true := decide_eq_true (by omega)
              obtain ⟨k1, rfl⟩ : ∃ k1, k = k1 + 1 := ⟨k - 1, by omega⟩
              obtain ⟨hzx, y, hy, rfl⟩ := hz2 (by omega)
              rw [Nat.add_sub_cancel] at hy
              have hsub : wrap64 (((k1 + 1 : Nat) : Int) - 1) = (k1 : Int) := by unfold wrap64; omega
              have HP := Lib.hid (fun w' (H' : Heap W l w') => rd_ofr (HR2.out w' H') hy (j := 0) rfl)
              clear hy
              have hz2 := hzx
              by_cases hs1 : x.sq ≤ y.sq
              · have d9 : decide (x.sq ≤ y.sq) = true := decide_eq_true hs1
                have HZ := Lib.hid (show okO nx 0 L = false by rw [hz, hb, decide_eq_false (by omega)]; rfl)
                clear hz hz0 hz1 hz2 hzx hx0 hb hs0 hs1
                go_wp2_with (go_skip)
                refine wp_region_H H (by kernel_rfl) (by kernel_rfl) ?_
                repeat (first | go_big_quiet_skip | (first | ((with_reducible apply wpQ_loadRdR row_ofr); (· rfl); (· rfl); (· exact HR2.out); (· first | rfl | exact (Nat.add_zero _).symm); (· exact hlen1); (· decide); (· exact hrow); (simp only [Act.put, List.setIfInBounds_toArray, List.set_cons_zero, List.set_cons_succ])) | ((with_reducible apply wpQ_loadCell cell_u64); (· rfl); (· rfl); (· exact HS.out); (simp only [Act.put, List.setIfInBounds_toArray, List.set_cons_zero, List.set_cons_succ])) | ((with_reducible apply wpQ_loadCell cell_u64); (· rfl); (· rfl); (· exact HP.out); (simp only [Act.put, List.setIfInBounds_toArray, List.set_cons_zero, List.set_cons_succ]))) | go_big_quiet_step (((with_reducible exact AnsH.quiet (M _)))))
                refine wpQuiet_nil ?_
                clear H
                intro _ H
                go_wp2_with (go_skip)
                go_ret2
                have e1 : ofE L nx = 1 := by rw [HE2.out, HZ.out]; rfl
                exact .inr ⟨by rw [e1]; decide, by rw [e1]; rfl, H⟩
              · have d9 : decide (x.sq ≤ y.sq) = false := decide_eq_false hs1
                clear hzx
                by_cases hs2 : nx ≤ x.sq
                · have d6 : decide (x.sq ≥ nx) = true := decide_eq_true hs2
                  have d7 : decide (nx ≤ x.sq) = true := decide_eq_true hs2
                  have HZ := Lib.hid (show okO nx 0 L = false by rw [hz, okO_small hs2]; simp)
                  clear hz hz0 hz1 hz2 hx0 hb hs0 hs2 hs1
                  go_wp2_with (go_skip)
                  refine wp_region_H H (by kernel_rfl) (by kernel_rfl) ?_
                  repeat (first | go_big_quiet_skip | (first | ((with_reducible apply wpQ_loadRdR row_ofr); (· rfl); (· rfl); (· exact HR2.out); (· first | rfl | exact (Nat.add_zero _).symm); (· exact hlen1); (· decide); (· exact hrow); (simp only [Act.put, List.setIfInBounds_toArray, List.set_cons_zero, List.set_cons_succ])) | ((with_reducible apply wpQ_loadCell cell_u64); (· rfl); (· rfl); (· exact HS.out); (simp only [Act.put, List.setIfInBounds_toArray, List.set_cons_zero, List.set_cons_succ])) | ((with_reducible apply wpQ_loadCell cell_u64); (· rfl); (· rfl); (· exact HP.out); (simp only [Act.put, List.setIfInBounds_toArray, List.set_cons_zero, List.set_cons_succ]))) | go_big_quiet_step (((with_reducible exact AnsH.quiet (M _)))))
                  refine wpQuiet_nil ?_
                  clear H
                  intro _ H
                  go_wp2_with (go_skip)
                  go_ret2
                  have e1 : ofE L nx = 1 := by rw [HE2.out, HZ.out]; rfl
                  exact .inr ⟨by rw [e1]; decide, by rw [e1]; rfl, H⟩
                · have d6 : decide (x.sq ≥ nx) = false := decide_eq_false hs2
                  have d7 : decide (nx ≤ x.sq) = false := decide_eq_false hs2
                  have HZ := Lib.hid (show 0 ≤ x.sq ∧ x.sq < nx ∧ okO nx 0 L = okO nx x.sq (L.drop ((k1 + 1) + 1)) from ⟨hx0, by omega, by rw [hz, hb, decide_eq_true (by omega)]; simp⟩)
                  clear hz hz0 hz1 hz2 hx0 hb hs0 hs2 hs1
                  go_wp2_with (go_skip)
                  refine wp_region_H H (by kernel_rfl) (by kernel_rfl) ?_
                  repeat (first | go_big_quiet_skip | (first | ((with_reducible apply wpQ_loadRdR row_ofr); (· rfl); (· rfl); (· exact HR2.out); (· first | rfl | exact (Nat.add_zero _).symm); (· exact hlen1); (· decide); (· exact hrow); (simp only [Act.put, List.setIfInBounds_toArray, List.set_cons_zero, List.set_cons_succ])) | ((with_reducible apply wpQ_loadCell cell_u64); (· rfl); (· rfl); (· exact HS.out); (simp only [Act.put, List.setIfInBounds_toArray, List.set_cons_zero, List.set_cons_succ])) | ((with_reducible apply wpQ_loadCell cell_u64); (· rfl); (· rfl); (· exact HP.out); (simp only [Act.put, List.setIfInBounds_toArray, List.set_cons_zero, List.set_cons_succ]))) | go_big_quiet_step (((with_reducible exact AnsH.quiet (M _)))))
                  refine wpQuiet_nil ?_
                  clear H
                  intro _ H
                  go_wp2_with (go_skip)
                  refine ⟨⟨(k1 + 1) + 1, x.sq, by omega, by go_num, HZ.out.1, (fun h => absurd h (by omega)), (fun _ => ⟨HZ.out.2.1, x, HGK.out.1, rfl⟩), HZ.out.2.2, H⟩, ?measure⟩
                  case measure => simp [intOf]; omega
      · obtain rfl : k = n := by omega
        rw [List.drop_of_length_le (by rw [HL.out]; exact Nat.le_refl _), okO] at hz
        by_cases hs : nx = 0
        · have d3 : (nx == 0) = true := by simp [hs]
          have HZ := Lib.hid (show okO nx 0 L = false by rw [hz, decide_eq_false (by omega)])
          clear hz hs hz0 hz1 hz2
          go_wp2_with (go_skip)
          go_ret2
          have e1 : ofE L nx = 1 := by rw [HE2.out, HZ.out]; rfl
          exact .inr ⟨by rw [e1]; decide, by rw [e1]; rfl, H⟩
        · have d3 : (nx == 0) = false := by simp [hs]
          have HZ := Lib.hid (show okO nx 0 L = true by
            rw [hz, decide_eq_true]
            by_cases hk0 : k = 0
            · have := hz1 hk0; omega
            · exact (hz2 (by omega)).1)
          clear hz hs hz0 hz1 hz2
          go_wp2_with (first
            | ((with_reducible show wpList _ _ _ (_ :: _) _ _); (with_reducible apply wpl_appendA slO); (· rfl); (· rfl); (· rfl); (· rfl); (· exact H.nilRow 83 7); (· exact HR.out _ _ (fun x hx => List.mem_cons_of_mem _ hx) (H.nilRow 83 7)); (· exact hlen); (· exact ofrL_ones L); (· exact hn1); (· exact hn2); (clear H; intro v2 w2 _ H; rw [Nat.zero_add, List.nil_append] at H; obtain ⟨a2, c2, rfl, _, _⟩ := RowT.form0 (H.ok _ List.mem_cons_self)); (simp only [Act.put, List.setIfInBounds_toArray, List.set_cons_zero, List.set_cons_succ]))
            | ((with_reducible show wpList _ _ _ (_ :: _) _ _); (with_reducible apply wpl_buildRB2); (· rfl); (· rfl); (· rfl); (simp only [Act.put, List.setIfInBounds_toArray, List.set_cons_zero, List.set_cons_succ]))
            | ((with_reducible show wpList _ _ _ (_ :: _) _ _); (with_reducible apply wpl_boxRH); (· rfl); (· rfl); (· exact H); (clear H; intro pb _ H); (simp only [Act.put, List.setIfInBounds_toArray, List.set_cons_zero, List.set_cons_succ]))
            | go_skip)
          go_ret2
          exact .inl ⟨by rw [HE2.out, HZ.out]; rfl, _, _, _, rfl, H⟩
end
end Go.Proofs.Ytacglcpjbepfnaa

/- countinghouselaw04.Same: a book, and the document's with the same offers. -/
namespace Go.Proofs.Ytacglcpjbepfnaa
open Go.RowKit
set_option linter.unusedSimpArgs false
set_option linter.unusedVariables false
set_option maxRecDepth 100000
section
variable {W w : World} {l : List Thing}
set_option maxHeartbeats 8000000
theorem same4_A {p rp n d : Nat} {v : Value} {b : Option Addr} {nx : Int} {L : List Ofr} (m1 : BkB p v nx ∈ l) (m2 : OfT v n L ∈ l) (m3 : RBk rp (.slice b n d) nx ∈ l) (m4 : OfT (.slice b n d) n L ∈ l) (h : 0 < nx) (hl : L.length = n) (hn : n ≤ 1000000) :
    AnsH W l 66 #[.pointer (some ⟨p, 0, none⟩), .pointer (some ⟨rp, 0, none⟩)] (.bool true) := by
  intro w H
  have HM := Lib.hid (And.intro m1 (And.intro m3 (And.intro m2 m4)))
  have AL := Lib.hid (fun (w' : World) (H' : Heap W l w') => all_H (p := p) m1 m2 h hl hn H')
  have SO := Lib.hid (fun (l' : List Thing) (a2 : Option Addr) (k2 : Nat) (x1 : OwO (.slice a2 n k2) n L ∈ l') (x2 : OfT (.slice b n d) n L ∈ l') => sameOffers_P (W := W) (l := l') (L := L) a2 b n k2 d hl hn (fun w' H' => H'.ownRd x1) (fun w' H' => H'.rowRd x2))
  have NX := Lib.hid (fun (l' : List Thing) (x1 : BkB p v nx ∈ l') => next_H (W := W) (l := l') (p := p) (v := v) (nx := nx) x1 h)
  have q1 : (nx == nx) = true := by simp
  clear m1 m2 m3 m4 h hl hn
  go_enter Try.func66, Try.ntmps66
  go_wp2_with (go_skip)
  refine wp_region_K0 [1] [0, 2, 3, 4, 5, 1, 6, 7, 8, 9, 10, 11, 12, 13, 14, 15, 16] H (by kernel_rfl) (by kernel_rfl) ?_
  iterate 5 (apply wpK_step; (· rfl); (· rfl); (· rfl); (· exact Nat.le_of_ble_eq_true rfl); (· intro l0 hs0 w0 H0; (first | go_big_quiet_skip | ((with_reducible apply wpQ_loadCH); (· exact cell_ofrs); (· rfl); (· rfl); (· exact hs0 _ HM.out.2.1); (· exact bkb_g0 ..); (simp only [Act.put, List.setIfInBounds_toArray, List.set_cons_zero, List.set_cons_succ])) | go_big_quiet_step (fail)); (refine wpQuiet_nil ?_); (simp only [Array.getD_eq_getD_getElem?, List.getElem?_toArray, List.getElem?_cons_succ, List.getElem?_cons_zero, Option.getD_some]; rfl)); (simp only [Act.put, List.setIfInBounds_toArray, List.set_cons_zero, List.set_cons_succ]))
  refine wpK_call (f := 52) (argl := [.pointer (some ⟨p, 0, none⟩)]) rfl rfl rfl Try.call52 rfl ?_
  intro w0 H0
  refine (AL.out _ H0).mono ?_
  clear H0
  rintro e w1 ⟨v3, rfl, H1⟩
  obtain ⟨a3, k3, rfl, _, _⟩ := OwnT.formO (H1.ok _ List.mem_cons_self)
  refine ⟨_, _, rfl, H1, _, fun t ht => List.mem_cons_of_mem _ ht, Keeps.refl _, ?_⟩
  clear H1
  (simp only [Act.put, List.setIfInBounds_toArray, List.set_cons_zero, List.set_cons_succ])
  (apply wpK_step; (· rfl); (· rfl); (· rfl); (· exact Nat.le_of_ble_eq_true rfl); (· intro l0 hs0 w0 H0; (first | go_big_quiet_skip | fail | go_big_quiet_step (exact (SO.out _ a3 k3 (hs0 _ (by (repeat (first | (with_reducible exact List.mem_cons_self) | with_reducible apply List.mem_cons_of_mem)))) (hs0 _ (List.mem_cons_of_mem _ HM.out.2.2.2))).quiet)); (refine wpQuiet_nil ?_); (simp only [Array.getD_eq_getD_getElem?, List.getElem?_toArray, List.getElem?_cons_succ, List.getElem?_cons_zero, Option.getD_some]; rfl)); (simp only [Act.put, List.setIfInBounds_toArray, List.set_cons_zero, List.set_cons_succ]))
  iterate 2 (apply wpK_step; (· rfl); (· rfl); (· rfl); (· exact Nat.le_of_ble_eq_true rfl); (· intro l0 hs0 w0 H0; (first | go_big_quiet_skip | fail | go_big_quiet_step (fail)); (refine wpQuiet_nil ?_); (simp only [Array.getD_eq_getD_getElem?, List.getElem?_toArray, List.getElem?_cons_succ, List.getElem?_cons_zero, Option.getD_some]; rfl)); (simp only [Act.put, List.setIfInBounds_toArray, List.set_cons_zero, List.set_cons_succ]))
  (apply wpK_step; (· rfl); (· rfl); (· rfl); (· exact Nat.le_of_ble_eq_true rfl); (· intro l0 hs0 w0 H0; (first | go_big_quiet_skip | fail | go_big_quiet_step (exact (NX.out _ (hs0 _ (List.mem_cons_of_mem _ HM.out.1))).quiet)); (refine wpQuiet_nil ?_); (simp only [Array.getD_eq_getD_getElem?, List.getElem?_toArray, List.getElem?_cons_succ, List.getElem?_cons_zero, Option.getD_some]; rfl)); (simp only [Act.put, List.setIfInBounds_toArray, List.set_cons_zero, List.set_cons_succ]))
  iterate 7 (apply wpK_step; (· rfl); (· rfl); (· rfl); (· exact Nat.le_of_ble_eq_true rfl); (· intro l0 hs0 w0 H0; (first | go_big_quiet_skip | ((with_reducible apply wpQ_loadCH); (· exact cell_u64); (· rfl); (· rfl); (· exact hs0 _ (List.mem_cons_of_mem _ HM.out.2.1)); (· exact bkb_g1 ..); (simp only [Act.put, List.setIfInBounds_toArray, List.set_cons_zero, List.set_cons_succ])) | go_big_quiet_step (fail)); (refine wpQuiet_nil ?_); (simp only [Array.getD_eq_getD_getElem?, List.getElem?_toArray, List.getElem?_cons_succ, List.getElem?_cons_zero, Option.getD_some]; rfl)); (simp only [Act.put, List.setIfInBounds_toArray, List.set_cons_zero, List.set_cons_succ]))
  (refine wpK_nil ?_; clear H; intro _ H)
  go_wp2_with (go_skip)
  go_ret
  exact ⟨rfl, H.tail⟩
end
end Go.Proofs.Ytacglcpjbepfnaa

/- Twins of offers (printed by gen/twino.py), and whether they were left. -/
namespace Go.Proofs.Ytacglcpjbepfnaa
open Go.RowKit
set_option linter.unusedSimpArgs false
set_option linter.unusedVariables false
abbrev mkO : Array Value := ofrA ⟨0, 0, 0, 0, -77, 0, 0⟩
abbrev mkO2 : List Value := ofrV ⟨0, 0, 0, 0, -77, 0, 0⟩ ++ ofrV ⟨0, 0, 0, 0, -77, 0, 0⟩
theorem mkO2_one : OneCells mkO2 := by
  have := ofrL_ones [⟨0, 0, 0, 0, -77, 0, 0⟩, ⟨0, 0, 0, 0, -77, 0, 0⟩]
  simpa [ofrL, mkO2] using this
/-- A twin: the list, and two marks behind it. -/
abbrev TwO (a : Option Addr) (c n : Nat) (F : List Ofr) : Thing := RowT 83 7 (.slice a (n + 2) c) (n + 2) (ofrL F ++ mkO2)
theorem madeRowO {W w : World} {l : List Thing} {g m : Nat} {z : Value} {e size : Nat} (H : Heap W (Cel g (madeCells z.cells (m * size)) e :: l) w) (hm : m ≤ maxLen) : Heap W (RowT e size (.slice (some ⟨g, 0, none⟩) 0 m) 0 [] :: l) w := by
  have := H.celRowA (n := 0) (m := m) (size := size) (by rw [size_madeCells]) (Nat.zero_le _) hm
  simpa using this
section
variable {ops : Array Oper} {rest : List Oper} {a : Act} {w W : World} {l : List Thing} {Q : Exit → Act → World → Prop}
theorem run_bs2O (w : World) : (Instr.buildSlice 76 2 #[(0, .agg mkO), (1, .agg mkO)]).run Try.prog w = .ok (.slice (some ⟨w.heap.size, 0, none⟩) 2 2) (w.alloc (.cells mkO2.toArray 83)) := by
  obtain ⟨i, hi, hz, hsi, hbi⟩ := slO.inf
  have r1 : (sizeOf 83).run Try.prog w = .ok 7 w := by simp [sizeOf, typeInfo, hi, hsi, go_sem]
  have r2 : (zeroValue 83).run Try.prog w = .ok (.agg (ofrA ⟨0, 0, 0, 0, 0, 0, 0⟩)) w := by simp [zeroValue, typeInfo, hi, hz, go_sem]
  unfold Instr.buildSlice
  rw [Sem.run_bind, run_underlying slO.und]
  simp only [Result.andThen_ok]
  rw [Sem.run_bind, r1]
  simp only [Result.andThen_ok]
  rw [if_neg (by decide), if_neg (by decide)]
  have hf : Instr.fill (fun i => some (i * 7, 7)) (Array.map (fun x => (Value.agg (ofrA ⟨0, 0, 0, 0, 0, 0, 0⟩)).cells[x % (Value.agg (ofrA ⟨0, 0, 0, 0, 0, 0, 0⟩)).cells.size]!) (Array.range (2 * 7))) [(0, Value.agg mkO), (1, Value.agg mkO)] = some mkO2.toArray := by kernel_rfl
  simp only [Sem.run_bind, r2, Result.andThen_ok, Sem.run_pure]
  rw [hf]
  simp [newRow, go_sem]
theorem wpl_bs2O {dst : Option Tmp} {ty : TypeId} {pos : String} {after : Array Edge} {guard : Option (Nat × Bool)} {x y : Operand} (hw : Region.wanted ⟨dst, .buildSlice 76 2 #[(0, x), (1, y)], ty, pos, after, guard⟩ (yielded ops a.tmps) = true)
    (hx : a.eval x = .agg mkO) (hy : a.eval y = .agg mkO) (H : Heap W l w) (h : ∀ p w', Heap W (Cel p mkO2.toArray 83 :: l) w' → wpList Try.prog ops Q rest (a.put dst (.slice (some ⟨p, 0, none⟩) 2 2)) w') : wpList Try.prog ops Q (⟨dst, .buildSlice 76 2 #[(0, x), (1, y)], ty, pos, after, guard⟩ :: rest) a w := by
  refine BigFrame.wpList_want hw fun K hK => ?_
  unfold Oper.wp execOp
  simp only [List.map_toArray, List.map_cons, List.map_nil, hx, hy, Sem.run_bind, run_bs2O, Result.andThen_ok, Sem.run_pure]
  exact hK _ _ (h _ _ (H.alloc _ _))
end
section
variable {W w : World} {l : List Thing}
set_option maxRecDepth 100000
set_option maxHeartbeats 4000000
theorem twin_O (ea : Option Addr) (n ec : Nat) (F : List Ofr) (hl : F.length = n) (hn : n ≤ 10000) (R : ∀ l' w', (∀ x ∈ l, x ∈ l') → Heap W l' w' → Rd w' ea (ofrL F)) (H : Heap W l w) :
    Calls Try.prog 112 #[.slice ea n ec, .agg mkO] w fun e w' => ∃ a c, e = .returned (.slice a n c) ∧ n + 2 ≤ c ∧ c ≤ maxLen ∧ Heap W (TwO a c n F :: l) w' := by
  have HR := Lib.hid R
  have hlen : (ofrL F).length = n * 7 := by rw [ofrL_len, hl]
  have h1 : 0 + n ≤ maxLen := by unfold maxLen; omega
  have h2 : (0 + n) * 40 ≤ 140737488355328 := by omega
  have h3 : 0 + n + 2 ≤ maxLen := by unfold maxLen; omega
  have h4 : (0 + n + 2) * 40 ≤ 140737488355328 := by omega
  have h5 : n + 2 ≤ maxLen := by unfold maxLen; omega
  have h6 : n + 2 ≤ 65536 := by omega
  have h7 : 40 * (n + 2) ≤ 281474976710656 := by omega
  clear R hl
  go_enter Try.func112, Try.ntmps112
  go_wp2_with (first
    | go_skip
    | ((with_reducible show wpList _ _ _ (_ :: _) _ _); (with_reducible apply wpl_boxRH); (· rfl); (· rfl); (· exact H); (clear H; intro px _ H); (simp only [Act.put, List.setIfInBounds_toArray, List.set_cons_zero, List.set_cons_succ]))
    | ((with_reducible show wpList _ _ _ (_ :: _) _ _); (with_reducible apply wpl_makeC slO (n := 0) (m := n + 2)); (· rfl); (· rfl); (· rfl); (· rfl); (· omega); (· omega); (· omega); (· exact H); (clear H; intro pm _ H); (simp only [Act.put, List.setIfInBounds_toArray, List.set_cons_zero, List.set_cons_succ]))
    | ((with_reducible show wpList _ _ _ (_ :: _) _ _); (with_reducible apply wpl_appendA slO); (· rfl); (· rfl); (· rfl); (· rfl); (· exact madeRowO H h5); (· exact HR.out _ _ (fun x hx => List.mem_cons_of_mem _ (List.mem_cons_of_mem _ hx)) H); (· exact hlen); (· exact ofrL_ones F); (· exact h1); (· exact h2); (clear H; intro v1 _ _ H); (simp only [Act.put, List.setIfInBounds_toArray, List.set_cons_zero, List.set_cons_succ]))
    | ((with_reducible show wpList _ _ _ (_ :: _) _ _); (with_reducible apply wpl_loadRH row_ofr); (· rfl); (· rfl); (· exact H); (· (repeat (first | (with_reducible exact List.mem_cons_self) | with_reducible apply List.mem_cons_of_mem))); (· (simp only [ofrA_sz, Nat.reduceAdd, Nat.reduceLeDiff, Nat.le_refl]; done)); (· with_reducible exact ofrA_all ..); (simp only [Act.put, List.setIfInBounds_toArray, List.set_cons_zero, List.set_cons_succ]))
    | ((with_reducible show wpList _ _ _ (_ :: _) _ _); (with_reducible apply wpl_bs2O); (· rfl); (· rfl); (· rfl); (· exact H); (clear H; intro pk _ H); (simp only [Act.put, List.setIfInBounds_toArray, List.set_cons_zero, List.set_cons_succ]))
    | ((with_reducible show wpList _ _ _ (_ :: _) _ _); (with_reducible apply wpl_appendA slO); (· rfl); (· rfl); (· rfl); (· rfl); (· exact H.pull (.there .here)); (· exact H.celRd List.mem_cons_self); (· rfl); (· exact mkO2_one); (· exact h3); (· exact h4); (clear H; intro v2 _ _ H; obtain ⟨a2, c2, rfl, hc2, hm2⟩ := RowT.form0 (H.ok _ List.mem_cons_self)); (simp only [Act.put, List.setIfInBounds_toArray, List.set_cons_zero, List.set_cons_succ]))
    | ((with_reducible show wpList _ _ _ (_ :: _) _ _); (with_reducible apply wpl_cutTo slO); (· rfl); (· rfl); (· rfl); (· omega); (simp only [Act.put, List.setIfInBounds_toArray, List.set_cons_zero, List.set_cons_succ])))
  go_ret
  simp only [Nat.zero_add, List.nil_append] at H hc2
  exact ⟨a2, c2, rfl, hc2, hm2, (H.drop (.there .here)).drop (.there .here)⟩
theorem twinOffers_H (ea : Option Addr) (n ec : Nat) (F : List Ofr) (hl : F.length = n) (hn : n ≤ 10000) (R : ∀ l' w', (∀ x ∈ l, x ∈ l') → Heap W l' w' → Rd w' ea (ofrL F)) (H : Heap W l w) :
    Calls Try.prog 62 #[.slice ea n ec] w fun e w' => ∃ a c, e = .returned (.slice a n c) ∧ n + 2 ≤ c ∧ c ≤ maxLen ∧ Heap W (TwO a c n F :: l) w' := by
  have C := twin_O ea n ec F hl hn R H
  clear hl R H
  go_enter Try.func62, Try.ntmps62
  go_wp2_with (go_skip)
  refine C.mono ?_
  clear C
  rintro e w' ⟨a, c, rfl, h1, h2, H⟩
  go_wp2_with (go_skip)
  go_ret
  exact ⟨a, c, rfl, h1, h2, H⟩
theorem left_O (a ea : Option Addr) (n c ec : Nat) (F : List Ofr) (hl : F.length = n) (hn : n ≤ 10000) (hc : n + 2 ≤ c) (hm : c ≤ maxLen) (m : TwO a c n F ∈ l) (R : ∀ l' w', (∀ x ∈ l, x ∈ l') → Heap W l' w' → Rd w' ea (ofrL F)) :
    AnsH W l 114 #[.slice a n c, .slice ea n ec, .agg mkO] (.bool true) := by
  intro w H
  obtain ⟨g, c', e, _, _⟩ := RowT.sl (H.ok _ m) (by omega)
  simp only [Value.slice.injEq, true_and] at e
  obtain ⟨rfl, rfl⟩ := e
  have hlen : (ofrL F).length = n * 7 := by rw [ofrL_len, hl]
  have HT := Lib.hid (show ∀ l' w', TwO (some ⟨g, 0, none⟩) c n F ∈ l' → Heap W l' w' → Rd w' (some ⟨g, 0, none⟩) (ofrL F ++ mkO2) from fun l' w' m h => h.rowRd m)
  have HTF := fun l' w' m h => by
    have := Rd.take (HT.out l' w' m h) (ofrL F).length
    rwa [List.take_left] at this
  have HS := fun (x : Thing) => sameO_P (W := W) (l := x :: l) (L := F) (some ⟨g, 0, none⟩) ea n c ec hl (by omega) (fun w' h => HTF _ w' (List.mem_cons_of_mem _ m) h) (fun w' h => R _ w' (fun y hy => List.mem_cons_of_mem _ hy) h)
  have HS := Lib.hid HS
  obtain ⟨q, hq⟩ : ∃ q, c - n = q := ⟨_, rfl⟩
  have hcut : cutA (some ⟨g, 0, none⟩) c n 7 = some ⟨g, n * 7, none⟩ := by
    unfold cutA
    rw [if_neg (by omega)]
    simp [addr_add]
  have HCUT := Lib.hid (And.intro hcut hq)
  have q1 : decide ((q : Int) < 2) = false := by simp; omega
  have hle2 : n ≤ c := by omega
  have hb1 : n * 7 + 7 ≤ (ofrL F ++ mkO2).length := by rw [List.length_append, hlen]; simp [mkO2, ofrV]
  have hb2 : n * 7 + 7 + 7 ≤ (ofrL F ++ mkO2).length := by rw [List.length_append, hlen]; simp [mkO2, ofrV]
  have hv1 : (((ofrL F ++ mkO2).drop (n * 7)).take 7).toArray = mkO := by rw [← hlen, List.drop_left]; rfl
  have hv2 : (((ofrL F ++ mkO2).drop (n * 7 + 7)).take 7).toArray = mkO := by
    rw [← hlen, ← List.drop_drop, List.drop_left]; rfl
  clear hcut HTF hl R hlen
  go_enter Try.func114, Try.ntmps114
  go_wp2_with (first
    | go_skip
    | ((with_reducible show wpList _ _ _ (_ :: _) _ _); (with_reducible apply wpl_boxRH); (· rfl); (· rfl); (· exact H); (clear H; intro px _ H); (simp only [Act.put, List.setIfInBounds_toArray, List.set_cons_zero, List.set_cons_succ]))
    | ((refine (HS.out _ _ H).mono ?_); clear H; rintro _ _ ⟨rfl, H⟩)
    | ((with_reducible show wpList _ _ _ (_ :: _) _ _); (with_reducible apply wpl_cutBoth slO); (· rfl); (· rfl); (· rfl); (· rfl); (· exact hle2); (· exact Nat.le_refl _); (· exact HCUT.out.1); (· exact HCUT.out.2); (· exact HCUT.out.2); (simp only [Act.put, List.setIfInBounds_toArray, List.set_cons_zero, List.set_cons_succ])))
  have hq2 : 2 ≤ q := by have := HCUT.out.2; omega
  have HT1 := Lib.hid (show ∀ w', Heap W (Cel px mkO 83 :: l) w' → Rd w' (some ⟨g, 0, none⟩) (ofrL F ++ mkO2) from fun w' h => HT.out _ w' (List.mem_cons_of_mem _ m) h)
  refine wp_region_H H (by kernel_rfl) (by kernel_rfl) ?_
  repeat (first | go_big_quiet_skip | (first | ((with_reducible apply wpQ_loadRdR0 row_ofr); (· rfl); (· rfl); (· exact HT1.out); (· exact hb1); (· decide); (· exact hv1); (simp only [Act.put, List.setIfInBounds_toArray, List.set_cons_zero, List.set_cons_succ])) | ((with_reducible apply wpQ_loadRdR0 row_ofr); (· rfl); (· rfl); (· exact HT1.out); (· exact hb2); (· decide); (· exact hv2); (simp only [Act.put, List.setIfInBounds_toArray, List.set_cons_zero, List.set_cons_succ])) | ((with_reducible apply wpQ_loadRH row_ofr); (· rfl); (· rfl); (· (repeat (first | (with_reducible exact List.mem_cons_self) | with_reducible apply List.mem_cons_of_mem))); (· (simp only [ofrA_sz, Nat.reduceAdd, Nat.reduceLeDiff, Nat.le_refl]; done)); (· with_reducible exact ofrA_all ..); (simp only [Act.put, List.setIfInBounds_toArray, List.set_cons_zero, List.set_cons_succ])) | ((with_reducible apply wpQ_eqlO); (· rfl); (· rfl); (· rfl); (simp only [Act.put, List.setIfInBounds_toArray, List.set_cons_zero, List.set_cons_succ]))) | go_big_quiet_step (fail))
  refine wpQuiet_nil ?_
  clear H
  intro _ H
  go_wp2_with (go_skip)
  go_ret
  exact ⟨rfl, H.tail⟩
theorem leftOffers_H (a ea : Option Addr) (n c ec : Nat) (F : List Ofr) (hl : F.length = n) (hn : n ≤ 10000) (hc : n + 2 ≤ c) (hm : c ≤ maxLen) (m : TwO a c n F ∈ l) (R : ∀ l' w', (∀ x ∈ l, x ∈ l') → Heap W l' w' → Rd w' ea (ofrL F)) :
    AnsH W l 65 #[.slice a n c, .slice ea n ec] (.bool true) := by
  intro w H
  have C := left_O a ea n c ec F hl hn hc hm m R
  clear hl hm m R
  go_enter Try.func65, Try.ntmps65
  go_wp2_with (first | go_skip | ((refine (C _ H).mono ?_); clear H; rintro _ _ ⟨rfl, H⟩))
  go_ret
  exact ⟨rfl, H⟩
end
end Go.Proofs.Ytacglcpjbepfnaa

/- How an argument's reading gives what a walk asks of it. -/
namespace Go.Proofs.Ytacglcpjbepfnaa
open Go.ChangeShapes Go.WideShapes Go.ChangeAt Go.RowKit

theorem Rd.ofCells {w : World} {x : Addr} {xs : List Value} (h : ∀ i, (hi : i < xs.length) → w.cell? (x.add i) = some xs[i]) : Rd w (some x) xs := by
  obtain ⟨b, o, sp⟩ := x
  intro i hi
  have h0 := h 0 (by omega)
  have hsp : sp = none := by
    rcases sp with _ | s
    · rfl
    · simp only [Addr.add, if_true, World.cell?] at h0
      split at h0 <;> simp at h0
  subst hsp
  exact ⟨b, o, rfl, by rw [← addr_add]; exact h i hi⟩

end Go.Proofs.Ytacglcpjbepfnaa

/- Arguments of whatever type, opened: a value's cells are those of its parts, one behind the other; a slice's elements likewise, however deep. -/
namespace Go.Proofs.Ytacglcpjbepfnaa
open Go.ChangeShapes Go.WideShapes Go.ChangeAt Go.RowKit
set_option linter.unusedVariables false
set_option linter.unusedSimpArgs false

/-- The parts of fields, one behind the other; none, if they do not lie so. -/
def flatFs (P : Program) (g : TypeId → Option (List TypeId)) : Nat → List Field → Option (List TypeId)
  | _, [] => some []
  | o, f :: fs => (g f.type).bind fun ts => if f.offset = o ∧ ts.length = P.cellsOf f.type then (flatFs P g (o + ts.length) fs).map (ts ++ ·) else none
def repFlat (ts : List TypeId) : Nat → List TypeId
  | 0 => []
  | n + 1 => ts ++ repFlat ts n
/-- The one-cell parts of a type. -/
def flat (P : Program) : Nat → TypeId → Option (List TypeId)
  | 0, _ => none
  | d + 1, t => match P.underlying t with
    | some (.int _) => some [t]
    | some .bool => some [t]
    | some (.slice _) => some [t]
    | some (.struct fs) => (flatFs P (flat P d) 0 fs.toList).bind fun ts => if ts.length = P.cellsOf t then some ts else none
    | some (.array n e) => (flat P d e).bind fun ts => if ts.length = P.cellsOf e ∧ n * ts.length = P.cellsOf t then some (repFlat ts n) else none
    | _ => none
section
variable {H : Type} {enc : TypeId × Value → H} {P : Program} {w : World} {base : Nat} {spare : Nat → Bool} {held : Bool}
/-- What a cell of such a part holds. -/
def PartOk (enc : TypeId × Value → H) (P : Program) (w : World) (base : Nat) (spare : Nat → Bool) (held : Bool) (u : TypeId) (v : Value) : Prop := ∃ m y, DataW.trod enc P w base spare held m u [v] = some y
theorem flatFs_spec {g : TypeId → Option (List TypeId)}
    (hg : ∀ (t : TypeId) (ts : List TypeId), g t = some ts → ∀ (fuel : Nat) (cs : List Value) (x : DataW H × List MemPlace), DataW.trod enc P w base spare held fuel t cs = some x → cs.length = ts.length ∧ ∀ (i : Nat) (u : TypeId), ts[i]? = some u → ∃ v, cs[i]? = some v ∧ PartOk enc P w base spare held u v) (cs : List Value) :
    ∀ (fs : List Field) (o : Nat) (ts : List TypeId), flatFs P g o fs = some ts → (∀ f ∈ fs, ∃ n y, DataW.trod enc P w base spare held n f.type ((cs.drop f.offset).take (P.cellsOf f.type)) = some y) →
      ∀ (i : Nat) (u : TypeId), ts[i]? = some u → ∃ v, cs[o + i]? = some v ∧ PartOk enc P w base spare held u v := by
  intro fs
  induction fs with
  | nil =>
    intro o ts h _ i u hu
    simp [flatFs] at h
    subst h
    simp at hu
  | cons f fs ih =>
    intro o ts h hall i u hu
    simp only [flatFs, Option.bind_eq_some_iff] at h
    obtain ⟨t1, h1, h2⟩ := h
    split at h2
    · rename_i hc
      obtain ⟨t2, h3, rfl⟩ := Option.map_eq_some_iff.1 h2
      obtain ⟨n, y, hy⟩ := hall f (List.mem_cons_self ..)
      obtain ⟨hl, hp⟩ := hg _ _ h1 _ _ _ hy
      by_cases hi : i < t1.length
      · rw [List.getElem?_append_left hi] at hu
        obtain ⟨v, hv, hk⟩ := hp i u hu
        refine ⟨v, ?_, hk⟩
        rw [hc.1, List.getElem?_take] at hv
        split at hv
        · rw [List.getElem?_drop] at hv; exact hv
        · cases hv
      · rw [List.getElem?_append_right (by omega)] at hu
        obtain ⟨v, hv, hk⟩ := ih _ _ h3 (fun f hf => hall f (List.mem_cons_of_mem _ hf)) _ _ hu
        exact ⟨v, by rw [← hv]; congr 1; omega, hk⟩
    · cases h2
theorem repFlat_len (ts : List TypeId) : ∀ n, (repFlat ts n).length = n * ts.length
  | 0 => by simp [repFlat]
  | n + 1 => by simp [repFlat, repFlat_len ts n, Nat.add_mul]; omega
theorem repFlat_spec {cs : List Value} {ts : List TypeId} {L : Nat} (hL : ts.length = L) (e : TypeId) :
    ∀ (n k : Nat), (∀ (i : Nat), i < n → ∀ (j : Nat) (u : TypeId), ts[j]? = some u → ∃ v, ((cs.drop ((k + i) * L)).take L)[j]? = some v ∧ PartOk enc P w base spare held u v) →
      ∀ (i : Nat) (u : TypeId), (repFlat ts n)[i]? = some u → ∃ v, cs[k * L + i]? = some v ∧ PartOk enc P w base spare held u v := by
  intro n
  induction n with
  | zero => intro k _ i u hu; simp [repFlat] at hu
  | succ n ih =>
    intro k hall i u hu
    simp only [repFlat] at hu
    by_cases hi : i < ts.length
    · rw [List.getElem?_append_left hi] at hu
      obtain ⟨v, hv, hk⟩ := hall 0 (by omega) i u hu
      refine ⟨v, ?_, hk⟩
      rw [List.getElem?_take] at hv
      split at hv
      · rw [List.getElem?_drop] at hv; simpa using hv
      · cases hv
    · rw [List.getElem?_append_right (by omega)] at hu
      obtain ⟨v, hv, hk⟩ := ih (k + 1) (fun i hi j u hu => by have := hall (i + 1) (by omega) j u hu; rwa [show k + (i + 1) = k + 1 + i by omega] at this) _ _ hu
      exact ⟨v, by rw [← hv]; congr 1; rw [Nat.add_mul]; omega, hk⟩
theorem flat_spec : ∀ (d : Nat) (t : TypeId) (ts : List TypeId), flat P d t = some ts → ∀ (fuel : Nat) (cs : List Value) (x : DataW H × List MemPlace), DataW.trod enc P w base spare held fuel t cs = some x →
    cs.length = ts.length ∧ ∀ (i : Nat) (u : TypeId), ts[i]? = some u → ∃ v, cs[i]? = some v ∧ PartOk enc P w base spare held u v := by
  intro d
  induction d with
  | zero => intro t ts h; simp [flat] at h
  | succ d ih =>
    intro t ts h fuel cs x hx
    have one : ∀ v, cs = [v] → ts = [t] → cs.length = ts.length ∧ ∀ (i : Nat) (u : TypeId), ts[i]? = some u → ∃ v, cs[i]? = some v ∧ PartOk enc P w base spare held u v := by
      rintro v rfl rfl
      refine ⟨rfl, fun i u hu => ?_⟩
      rcases i with _ | i
      · simp at hu; subst hu; exact ⟨v, rfl, _, _, hx⟩
      · simp at hu
    unfold flat at h
    split at h
    · rename_i k hk
      obtain ⟨n, rfl, _⟩ := DataW.trod_int hk hx
      exact one _ rfl (by simpa using h.symm)
    · rename_i hk
      obtain ⟨n, rfl, _⟩ := DataW.trod_bool hk hx
      exact one _ rfl (by simpa using h.symm)
    · rename_i e hk
      rcases DataW.trod_slice hk hx with ⟨rfl, _⟩ | ⟨a, len, cap, elems, rest, n, _, rfl, _⟩
      · exact one _ rfl (by simpa using h.symm)
      · exact one _ rfl (by simpa using h.symm)
    · rename_i fs hk
      simp only [Option.bind_eq_some_iff] at h
      obtain ⟨t1, h1, h2⟩ := h
      split at h2
      · rename_i hl
        cases h2
        obtain ⟨xs, m, _, _, hlen, hxs, hf⟩ := DataW.trod_struct hk hx
        refine ⟨by rw [hlen, hl], fun i u hu => ?_⟩
        have := flatFs_spec (fun t ts h => ih t ts h) cs fs.toList 0 ts h1 (fun f hf' => by
          obtain ⟨j, hj, rfl⟩ := List.getElem_of_mem hf'
          have hj' : j < fs.size := by simpa using hj
          have h3 := hf j fs[j] (by simp [hj'])
          have hj2 : j < xs.length := by omega
          exact ⟨m, xs[j], by simpa [hj2] using h3⟩) i u hu
        simpa using this
      · cases h2
    · rename_i n e hk
      simp only [Option.bind_eq_some_iff] at h
      obtain ⟨t1, h1, h2⟩ := h
      split at h2
      · rename_i hl
        cases h2
        obtain ⟨xs, m, _, _, hlen, hxs, hf⟩ := DataW.trod_array hk hx
        refine ⟨by rw [hlen, repFlat_len, hl.2], fun i u hu => ?_⟩
        have := repFlat_spec (cs := cs) hl.1 e n 0 (fun i hi j u hu => by
          have h3 := hf i hi
          have hi2 : i < xs.length := by omega
          have h4 : DataW.trod enc P w base spare held m e ((cs.drop (i * P.cellsOf e)).take (P.cellsOf e)) = some xs[i] := by rw [h3]; simp [hi2]
          rw [Nat.zero_add]
          exact (ih e t1 h1 _ _ _ h4).2 j u hu) i u hu
        simpa using this
      · cases h2
    · cases h

theorem add_add (a : Addr) (m k : Nat) : (a.add m).add k = a.add (m + k) := by
  unfold Addr.add
  by_cases hm : m = 0
  · subst hm; simp
  · by_cases hk : k = 0
    · subst hk; simp
    · simp [hm, hk]; omega
/-- What a one-cell part holds, d slices deep. -/
def LeafOk (P : Program) (w : World) : Nat → TypeId → Value → Prop
  | 0, _, _ => True
  | d + 1, u, v => match P.underlying u with
    | some (.int k) => ∃ n, v = .int k n ∧ (Lit.int k n).wf = true
    | some .bool => ∃ b, v = .bool b
    | some (.slice e) => ∃ a n c xs, v = .slice a n c ∧ n ≤ c ∧ c ≤ maxLen ∧ xs.length = n * P.cellsOf e ∧ Rd w a xs ∧ (a = none → n = 0 ∧ c = 0) ∧
        ∀ ts : List TypeId, flat P 9 e = some ts → ∀ (i j : Nat) (u' : TypeId), i < n → ts[j]? = some u' → ∃ v', xs[i * P.cellsOf e + j]? = some v' ∧ LeafOk P w d u' v'
    | _ => True
theorem cells_get {a : Addr} {n : Nat} {cs : List Value} (h : w.cells? 0 a n = some cs) : cs.length = n ∧ ∀ i, i < n → w.cell? (a.add i) = cs[i]? := by
  unfold World.cells? at h
  rw [if_pos (Nat.zero_le _)] at h
  refine ⟨by simpa using mapM_some_length h, fun i hi => ?_⟩
  have := mapM_some_get h i i (by simp [hi])
  exact this
theorem leaf_ok : ∀ (d : Nat) (u : TypeId) (v : Value), PartOk enc P w 0 (fun _ => true) held u v → LeafOk P w d u v := by
  intro d
  induction d with
  | zero => intros; trivial
  | succ d ih =>
    intro u v h
    obtain ⟨m, y, hy⟩ := h
    unfold LeafOk
    split
    · rename_i k hk
      obtain ⟨n, hv, _, hw⟩ := DataW.trod_int hk hy
      simp at hv
      exact ⟨n, hv, hw⟩
    · rename_i hk
      obtain ⟨b, hv, _⟩ := DataW.trod_bool hk hy
      simp at hv
      exact ⟨b, hv⟩
    · rename_i e hk
      rcases DataW.trod_slice hk hy with ⟨hv, _⟩ | ⟨a, len, cap, elems, rest, n, _, hv, _, _, hl, hm, hlen, hel, _, _⟩
      · simp at hv
        exact ⟨none, 0, 0, [], hv, Nat.le_refl _, by unfold maxLen; omega, by simp, Rd.nil _ _, fun _ => ⟨rfl, rfl⟩, fun ts hts i j u' hi => by omega⟩
      · simp at hv
        have each : ∀ i, i < len → ∃ cs y, w.cells? 0 (a.add (i * P.cellsOf e)) (P.cellsOf e) = some cs ∧ DataW.trod enc P w 0 (fun _ => true) held n e cs = some y := by
          intro i hi
          have h1 := hel i hi
          have hi2 : i < elems.length := by omega
          rw [List.getElem?_eq_getElem hi2] at h1
          obtain ⟨cs, h2, h3⟩ := Option.bind_eq_some_iff.1 h1
          exact ⟨cs, _, h2, h3⟩
        have cell : ∀ k, k < len * P.cellsOf e → ∃ x, w.cell? (a.add k) = some x := by
          intro k hk'
          have hpos : 0 < P.cellsOf e := Nat.pos_of_ne_zero fun h => by rw [h] at hk'; simp at hk'
          have hi : k / P.cellsOf e < len := by rw [Nat.div_lt_iff_lt_mul hpos]; exact hk'
          obtain ⟨cs, _, h1, _⟩ := each _ hi
          obtain ⟨hl, hg⟩ := cells_get h1
          have hm := Nat.mod_lt k hpos
          have := hg _ hm
          rw [add_add, Nat.mul_comm, Nat.div_add_mod] at this
          exact ⟨cs[k % P.cellsOf e], by rw [this]; simp [hl, hm]⟩
        have hxl : ((List.range (len * P.cellsOf e)).map fun j => (w.cell? (a.add j)).getD undef).length = len * P.cellsOf e := by simp
        have hget : ∀ k, k < len * P.cellsOf e → ((List.range (len * P.cellsOf e)).map fun j => (w.cell? (a.add j)).getD undef)[k]? = w.cell? (a.add k) := by
          intro k hk'
          obtain ⟨x, hx⟩ := cell k hk'
          simp [hk', hx]
        refine ⟨some a, len, cap, _, hv, hl, hm, hxl, Rd.ofCells fun k hk' => ?_, (fun h => by cases h), fun ts hts i j u' hi hj => ?_⟩
        · rw [hxl] at hk'
          rw [← hget k hk']
          exact List.getElem?_eq_getElem _
        · obtain ⟨cs, y', h1, h2⟩ := each i hi
          obtain ⟨hl, hg⟩ := cells_get h1
          obtain ⟨hlen2, hp⟩ := flat_spec 9 e ts hts _ _ _ h2
          obtain ⟨v', hv', hk'⟩ := hp j u' hj
          have hjl : j < P.cellsOf e := by have := (List.getElem?_eq_some_iff.1 hj).1; omega
          have hb : i * P.cellsOf e + j < len * P.cellsOf e := by
            have := Nat.mul_le_mul_right (P.cellsOf e) (show i + 1 ≤ len by omega)
            rw [Nat.add_mul] at this
            omega
          refine ⟨v', ?_, ih _ _ hk'⟩
          rw [hget _ hb, ← add_add, hg j hjl]
          exact hv'
    · trivial
/-- A slice's value, d slices deep. -/
theorem open_sl {r : Reach} {b0 : Nat} {t e : TypeId} {v : Value} {dd : DataW H} {p : List MemPlace} (hs : P.underlying t = some (.slice e)) (hv : Value.okWide P w r b0 t v) (h : DataW.Trod enc P w 0 (fun _ => true) held t v dd p) (d : Nat) : LeafOk P w d t v := by
  obtain ⟨a, n, c, rfl⟩ := okWide_slice hs hv
  obtain ⟨fuel, h1⟩ := h
  exact leaf_ok d t _ ⟨fuel, _, h1⟩
theorem leaf_int {u : TypeId} {k : IntKind} {v : Value} (hu : P.underlying u = some (.int k)) (h : ∀ d, LeafOk P w d u v) : ∃ n, v = .int k n ∧ (Lit.int k n).wf = true := by
  have h := h 1
  unfold LeafOk at h
  rw [hu] at h
  exact h
theorem leaf_slice {u e : TypeId} {v : Value} (hu : P.underlying u = some (.slice e)) {ts : List TypeId} (hf : flat P 9 e = some ts) (h : ∀ d, LeafOk P w d u v) :
    ∃ a n c xs, v = .slice a n c ∧ n ≤ c ∧ c ≤ maxLen ∧ xs.length = n * P.cellsOf e ∧ Rd w a xs ∧ (a = none → n = 0 ∧ c = 0) ∧ ∀ (i j : Nat) (u' : TypeId), i < n → ts[j]? = some u' → ∃ v', xs[i * P.cellsOf e + j]? = some v' ∧ ∀ d, LeafOk P w d u' v' := by
  have h1 := h 1
  unfold LeafOk at h1
  rw [hu] at h1
  obtain ⟨a, n, c, xs, rfl, hn, hc, hl, hr, h0, hp⟩ := h1
  refine ⟨a, n, c, xs, rfl, hn, hc, hl, hr, h0, fun i j u' hi hj => ?_⟩
  obtain ⟨v', hv', _⟩ := hp ts hf i j u' hi hj
  refine ⟨v', hv', fun d => ?_⟩
  have h2 := h (d + 1)
  unfold LeafOk at h2
  rw [hu] at h2
  obtain ⟨a2, n2, c2, xs2, he, _, _, hl2, hr2, _, hp2⟩ := h2
  simp only [Value.slice.injEq] at he
  obtain ⟨rfl, rfl, rfl⟩ := he
  obtain ⟨v2, hv2, hk⟩ := hp2 ts hf i j u' hi hj
  have e1 : xs2 = xs := by
    apply List.ext_getElem (by rw [hl2, hl])
    intro m h3 h4
    obtain ⟨b, o, e5, h5⟩ := hr m h4
    obtain ⟨b', o', e6, h6⟩ := hr2 m h3
    rw [e5] at e6
    simp only [Option.some.injEq, Addr.mk.injEq] at e6
    obtain ⟨rfl, rfl, _⟩ := e6
    rw [h5] at h6
    exact (Option.some.inj h6).symm
  subst e1
  rw [hv'] at hv2
  cases hv2
  exact hk
end
end Go.Proofs.Ytacglcpjbepfnaa

/- Leaves of arguments: parties, numbers. -/
namespace Go.Proofs.Ytacglcpjbepfnaa
open Go.ChangeShapes Go.WideShapes Go.ChangeAt Go.RowKit
theorem leaf_i64 {w : World} {v : Value} (h : ∀ d, LeafOk Try.prog w d 2 v) : ∃ n : Int, v = .int .i64 n ∧ -9223372036854775808 ≤ n ∧ n ≤ 9223372036854775807 := by
  obtain ⟨n, rfl, hw⟩ := leaf_int Try.underlying2 h
  exact ⟨n, rfl, (bounds_i64 hw).1, (bounds_i64 hw).2⟩
end Go.Proofs.Ytacglcpjbepfnaa

/- Offers, acts on a book, lists of both, as arguments. (Printed by gen/open04.py.) -/
namespace Go.Proofs.Ytacglcpjbepfnaa
open Go.ChangeShapes Go.WideShapes Go.ChangeAt Go.RowKit
set_option linter.unusedVariables false
set_option linter.unusedSimpArgs false
set_option maxRecDepth 100000
theorem leafI_u64 {w : World} {v : Value} (h : ∀ d, LeafOk Try.prog w d 79 v) : ∃ n : Int, v = .int .u64 n ∧ 0 ≤ n ∧ n ≤ 18446744073709551615 := by
  obtain ⟨n, rfl, hw⟩ := leaf_int Try.underlying79 h
  exact ⟨n, rfl, bounds_u64 hw⟩
theorem leafI_u8 {w : World} {v : Value} {u : TypeId} (hu : Try.prog.underlying u = some (.int .u8)) (h : ∀ d, LeafOk Try.prog w d u v) : ∃ n : Int, v = .int .u8 n ∧ 0 ≤ n ∧ n ≤ 255 := by
  obtain ⟨n, rfl, hw⟩ := leaf_int hu h
  exact ⟨n, rfl, (bounds_u8 hw).1, (bounds_u8 hw).2⟩
theorem flat_offr : flat Try.prog 9 83 = some [79, 23, 24, 24, 2, 2, 2] := by kernel_rfl
theorem offr_cellsOf : Try.prog.cellsOf 83 = 7 := by kernel_rfl
structure OffrsArg (w : World) (a : Option Addr) (n c : Nat) (F : List Ofr) : Prop where
  len : F.length = n
  cap : n ≤ c
  max : c ≤ maxLen
  rd : Rd w a (ofrL F)
  ok : ∀ x ∈ F, OfrOk x
theorem offrs_of {w : World} : ∀ (n : Nat) (xs : List Value), xs.length = n * 7 → (∀ (i j : Nat) (u : TypeId), i < n → ([79, 23, 24, 24, 2, 2, 2] : List TypeId)[j]? = some u → ∃ v, xs[i * 7 + j]? = some v ∧ ∀ d, LeafOk Try.prog w d u v) → ∃ F : List Ofr, F.length = n ∧ xs = ofrL F ∧ ∀ x ∈ F, OfrOk x
  | 0, xs, hl, _ => ⟨[], rfl, by simpa [ofrL] using hl, by simp⟩
  | n + 1, xs, hl, h => by
    rcases xs with _ | ⟨c0, _ | ⟨c1, _ | ⟨c2, _ | ⟨c3, _ | ⟨c4, _ | ⟨c5, _ | ⟨c6, ys⟩⟩⟩⟩⟩⟩⟩
    · simp at hl
    · simp at hl; omega
    · simp at hl; omega
    · simp at hl; omega
    · simp at hl; omega
    · simp at hl; omega
    · simp at hl; omega
    · obtain ⟨x0, h0, k0⟩ := h 0 0 _ (by omega) rfl
      obtain ⟨x1, h1, k1⟩ := h 0 1 _ (by omega) rfl
      obtain ⟨x2, h2, k2⟩ := h 0 2 _ (by omega) rfl
      obtain ⟨x3, h3, k3⟩ := h 0 3 _ (by omega) rfl
      obtain ⟨x4, h4, k4⟩ := h 0 4 _ (by omega) rfl
      obtain ⟨x5, h5, k5⟩ := h 0 5 _ (by omega) rfl
      obtain ⟨x6, h6, k6⟩ := h 0 6 _ (by omega) rfl
      simp at h0 h1 h2 h3 h4 h5 h6
      subst h0 h1 h2 h3 h4 h5 h6
      obtain ⟨w0, rfl, q0⟩ := leafI_u64 k0
      obtain ⟨w1, rfl, q1⟩ := leafI_u8 Try.underlying23 k1
      obtain ⟨w2, rfl, q2⟩ := leafI_u8 Try.underlying24 k2
      obtain ⟨w3, rfl, q3⟩ := leafI_u8 Try.underlying24 k3
      obtain ⟨w4, rfl, q4⟩ := leaf_i64 k4
      obtain ⟨w5, rfl, q5⟩ := leaf_i64 k5
      obtain ⟨w6, rfl, q6⟩ := leaf_i64 k6
      obtain ⟨F, hF, rfl, hok⟩ := offrs_of n ys (by simp at hl; omega) (fun i j u hi hj => by
        obtain ⟨v, hv, hk⟩ := h (i + 1) j u (by omega) hj
        refine ⟨v, ?_, hk⟩
        rw [show (i + 1) * 7 + j = (i * 7 + j) + 7 by omega] at hv
        simpa using hv)
      exact ⟨⟨w0, w1, w2, w3, w4, w5, w6⟩ :: F, by simp [hF], by simp [ofrL, ofrV], fun x hx => by
        rcases List.mem_cons.1 hx with rfl | hx
        · exact ⟨q0, q1, q2, q3, q4, q5, q6⟩
        · exact hok x hx⟩
def OffrsV (w : World) (v : Value) : Prop := ∃ a n c F, v = .slice a n c ∧ OffrsArg w a n c F
theorem open_offrs {H : Type} {enc : TypeId × Value → H} {W : World} {held : Bool} {v : Value} {d : DataW H} {p : List MemPlace} {r : Reach} {b0 : Nat}
    (hval : Value.okWide Try.prog W r b0 76 v) (h : DataW.Trod enc Try.prog W 0 (fun _ => true) held 76 v d p) : OffrsV W v := by
  have hk := fun d => open_sl Try.underlying76 hval h d
  obtain ⟨a, n, c, xs, rfl, hn, hc, hl, hr, _, hp⟩ := leaf_slice Try.underlying76 flat_offr hk
  rw [offr_cellsOf] at hl hp
  obtain ⟨F, hF, rfl, hok⟩ := offrs_of (w := W) n xs hl hp
  exact ⟨a, n, c, F, rfl, hF, hn, hc, hr, hok⟩
end Go.Proofs.Ytacglcpjbepfnaa

/- The walk of BooksOf. -/
namespace Go.Proofs.Ytacglcpjbepfnaa
open Go.RowKit
set_option linter.unusedSimpArgs false
set_option linter.unusedVariables false
set_option maxRecDepth 100000
theorem AnsH.at7 {W w : World} {l : List Thing} {f : FuncId} {args : Array Value} {v : Value} (_ : Heap W l w) (h : AnsH W l f args v) : AnsH W l f args v := h
structure OfZeroB (W : World) (l : List Thing) (T : TypeId) (size : Nat) (a : Option Addr) (N c n : Nat) (i : Value) (wr : World) : Prop where
  out : ∃ (k : Nat) (xs : List Value), i = .int .i64 (k : Int) ∧ k ≤ n ∧ Heap W (OwnT T size (.slice a N c) N xs :: l) wr
section
set_option maxHeartbeats 8000000
theorem booksOf_great (w : World) (ea : Option Addr) (n ec : Nat) (nx : Int) (hg : 50 < n) (hm : n ≤ maxLen) :
    Calls Try.prog 12 #[.slice ea n ec, .int .u64 nx] w fun e w' => e = .returned (.bool true) ∧ Below w.heap.size w w' := by
  have H := Heap.start w
  unfold maxLen at hm
  have d1 : decide ((n : Int) > 50) = true := decide_eq_true (by omega)
  have d2 : decide (50 < (n : Int)) = true := decide_eq_true (by omega)
  go_enter Try.func12, Try.ntmps12
  go_wp2_with (go_skip)
  refine (lives04_H H).mono ?_
  clear H
  rintro e w7 ⟨rfl, H⟩
  go_wp2_with (go_skip)
  go_ret
  exact ⟨rfl, H.low⟩
theorem booksOf_main (w : World) (ea : Option Addr) (n ec : Nat) (F : List Ofr) (nx : Int) (hl : F.length = n) (hn : n ≤ 50) (hnx : 0 ≤ nx) (hF : ∀ x ∈ F, OfrOk x) (R : Rd w ea (ofrL F)) :
    Calls Try.prog 12 #[.slice ea n ec, .int .u64 nx] w fun e w' => e = .returned (.bool true) ∧ Below w.heap.size w w' := by
  have H := Heap.start w
  have d1 : decide ((n : Int) > 50) = false := decide_eq_false (by omega)
  have d2 : decide (50 < (n : Int)) = false := decide_eq_false (by omega)
  have HR := Lib.hid (show ∀ (l' : List Thing) w', Heap w l' w' → Rd w' ea (ofrL F) from fun l' w' H' => R.below H'.low)
  have HL := Lib.hid (And.intro hl hF)
  clear hl hF R
  go_enter Try.func12, Try.ntmps12
  go_wp2_with (go_skip)
  refine (twinOffers_H ea n ec F HL.out.1 (by omega) (fun l' w' _ h => HR.out l' w' h) H).mono ?_
  clear H
  rintro e w1 ⟨a1, c1, rfl, hc1, hm1, H⟩
  have RT := Lib.hid (show ∀ (l' : List Thing) w', TwO a1 c1 n F ∈ l' → Heap w l' w' → Rd w' a1 (ofrL F) from fun l' w' m h => by
    have := Rd.take (h.rowRd m) (ofrL F).length
    rwa [List.take_left] at this)
  have LF := Lib.hid (fun (l' : List Thing) (m : TwO a1 c1 n F ∈ l') => leftOffers_H (W := w) (l := l') a1 ea n c1 ec F HL.out.1 (by omega) hc1 hm1 m (fun l2 w' _ h => HR.out l2 w' h))
  go_wp2_with (go_skip)
  refine (of4_H a1 n c1 F nx HL.out.1 (by omega) HL.out.2 (fun l' w' hh h => RT.out l' w' (hh _ List.mem_cons_self) h) H).mono ?_
  clear H
  rintro e w2 (⟨h0, p, v, rfl, H⟩ | ⟨h0, rfl, H⟩)
  · have HE := Lib.hid h0
    go_wp2_with (go_skip)
    refine (rof4_H ea n ec F nx HL.out.1 (by omega) hnx HL.out.2 (fun l' w' _ h => HR.out l' w' h) H).mono ?_
    clear H
    rintro e w3 (⟨_, rp, ra, rc, rfl, H⟩ | ⟨h1, _⟩)
    · clear h0
      have hnx1 : 0 < nx := by
        have := (ofE_ok F nx).symm.trans HE.out
        split at this
        · cases this
        · split at this
          · rename_i h
            exact (okO_iff.1 h).2.2
          · cases this
      have A1 := AnsH.at7 H (LF.out _ (by (repeat (first | (with_reducible exact List.mem_cons_self) | with_reducible apply List.mem_cons_of_mem))))
      go_wp2_with (first | go_skip | ((with_reducible refine AnsH.call (by assumption) H ?_); clear H; intro _ H))
      clear A1
      replace H := (H.pull (.there (.there (.there (.there .here))))).slide
      obtain ⟨g2, o2, cc2, e2, _, _⟩ := OwnT.form (H.ok _ List.mem_cons_self) (by omega)
      simp only [Value.slice.injEq, true_and] at e2
      obtain ⟨rfl, rfl⟩ := e2
      have H0 := H
      clear H
      go_loopw [10] (fun i wr => OfZeroB w [RBk rp (.slice ra n rc) nx, OfT (.slice ra n rc) n F, BkB p v nx, OfT v n F] 83 7 (some ⟨g2, o2, none⟩) (n + 2) c1 n i wr) (fun i _ => n - (intOf i).toNat)
      case atStart => exact ⟨0, _, rfl, by omega, H0⟩
      case round =>
        obtain ⟨k, xs, rfl, hk, H⟩ := hrel.out
        clear H0 hrel
        have hxl := OwnT.len (H.ok _ List.mem_cons_self)
        by_cases hlt : k < n
        · have hkl : k * 7 + 4 < xs.length := by omega
          go_wp2_with (first
            | go_skip
            | ((with_reducible show wpList _ _ _ (_ :: _) _ _); (with_reducible apply wpl_storeOwnC); (· exact cell_i64); (· rfl); (· rfl); (· exact (rfl : _ = Value.int .i64 0)); (· exact ⟨rfl, rfl⟩); (· exact H); (· (repeat (first | (with_reducible exact List.mem_cons_self) | with_reducible apply List.mem_cons_of_mem))); (· exact Nat.add_assoc _ _ _); (· exact hkl); (· (repeat (first | (with_reducible exact Repl.here) | with_reducible apply Repl.there))); (clear H; intro _ H); (simp only [Act.put, List.setIfInBounds_toArray, List.set_cons_zero, List.set_cons_succ])))
          refine ⟨⟨k + 1, _, by go_num, by omega, H⟩, ?measure⟩
          case measure => simp [intOf]; omega
        · obtain rfl : n = k := by omega
          replace H := H.tail
          have SM := AnsH.at7 H (same4_A (W := w) (p := p) (rp := rp) (v := v) (nx := nx) (L := F) (n := n) (by (repeat (first | (with_reducible exact List.mem_cons_self) | with_reducible apply List.mem_cons_of_mem))) (by (repeat (first | (with_reducible exact List.mem_cons_self) | with_reducible apply List.mem_cons_of_mem))) (by (repeat (first | (with_reducible exact List.mem_cons_self) | with_reducible apply List.mem_cons_of_mem))) (by (repeat (first | (with_reducible exact List.mem_cons_self) | with_reducible apply List.mem_cons_of_mem))) hnx1 HL.out.1 (by omega))
          go_wp2_with (first | go_skip | ((with_reducible refine AnsH.call (by assumption) H ?_); clear H; intro _ H) | ((refine (lives04_H H).mono ?_); clear H; rintro _ _ ⟨rfl, H⟩))
          go_ret
          exact ⟨rfl, H.low⟩
    · exact absurd h0 h1
  · go_wp2_with (go_skip)
    refine (rof4_H ea n ec F nx HL.out.1 (by omega) hnx HL.out.2 (fun l' w' _ h => HR.out l' w' h) H).mono ?_
    clear H
    rintro e w3 (⟨h1, _⟩ | ⟨_, rfl, H⟩)
    · exact absurd h1 h0
    · have A1 := AnsH.at7 H (LF.out _ (by (repeat (first | (with_reducible exact List.mem_cons_self) | with_reducible apply List.mem_cons_of_mem))))
      generalize ofE F nx = q at *
      have d3 : (q != 0) = true := by simp [h0]
      have d4 : (q != q) = false := by simp
      clear h0
      go_wp2_with (first | go_skip | ((with_reducible refine AnsH.call (by assumption) H ?_); clear H; intro _ H) | ((refine (lives04_H H).mono ?_); clear H; rintro _ _ ⟨rfl, H⟩))
      go_ret
      exact ⟨rfl, H.low⟩
theorem booksOf_law (v0 : Value) (x1 : Int) (w : World) (o0 : OffrsV w v0) (o1 : 0 ≤ x1) (o2 : x1 ≤ 18446744073709551615) : Calls Try.prog 12 #[v0, .int .u64 x1] w fun e w' => e = .returned (.bool true) ∧ Below w.heap.size w w' := by
  obtain ⟨a, n, c, F, rfl, o0⟩ := o0
  by_cases h : 50 < n
  · exact booksOf_great w a n c x1 h (Nat.le_trans o0.cap o0.max)
  · exact booksOf_main w a n c F x1 o0.len (by omega) o1 o0.ok o0.rd
end
end Go.Proofs.Ytacglcpjbepfnaa
