/- Part 3 of what several laws stand on: Graph2, Graph3, Graph4, HeapLoud, HeapCalls, HeapSlide. -/
import Derived.Test.YtgobnamhdkbbeaaPayGPart2
/- graphs.Graph: Push, Copy, all, Same. -/
namespace Go.Proofs.Ytgobnamhdkbbeaa
open Go.RowKit
set_option linter.unusedSimpArgs false
set_option linter.unusedVariables false
/-- Two arrays are the same where each part is. -/
theorem run_eq_arr (d : Nat) {T e n sz : Nat} {ca cb : Array Value} (hu : Try.prog.underlying T = some (.array n e)) (hs : ∀ w, (sizeOf e).run Try.prog w = .ok sz w) (va vb : Nat → Value) (eq : Nat → Bool) (w : World)
    (h1 : ∀ i, i < n → (part e ca (i * sz)).run Try.prog w = .ok (va i) w) (h2 : ∀ i, i < n → (part e cb (i * sz)).run Try.prog w = .ok (vb i) w) (h3 : ∀ i, i < n → (Op.equalIn (d + 1) e (va i) (vb i)).run Try.prog w = .ok (eq i) w) :
    (Op.equalIn (d + 2) T (.agg ca) (.agg cb)).run Try.prog w = .ok ((List.range' 0 n 1).all eq) w := by
  have key : ∀ l : List Nat, (∀ i ∈ l, i < n) → ∀ (a : Option Bool × Unit), a.1 = none →
      ((forIn l a fun i (r : Option Bool × Unit) => do
        let va ← part e ca (i * sz)
        let vb ← part e cb (i * sz)
        let e ← Op.equalIn (d + 1) e va vb
        if (!e) = true then pure (ForInStep.done (some false, ())) else pure (ForInStep.yield (none, ()))) : Sem (Option Bool × Unit)).run Try.prog w
      = .ok (if l.all eq then a else (some false, ())) w := by
    intro l
    induction l with
    | nil => intro _ a ha; simp
    | cons i l ih =>
      intro hl a ha
      have hi := hl i (by simp)
      obtain ⟨a1, ⟨⟩⟩ := a
      simp only at ha
      subst ha
      rw [List.forIn_cons]
      simp only [Sem.run_bind, h1 i hi, h2 i hi, h3 i hi, Result.andThen_ok]
      cases he : eq i
      · simp [he]
      · simp only [Bool.not_true, Bool.false_eq_true, if_false, Sem.run_pure, Result.andThen_ok, List.all_cons, he, Bool.true_and]
        exact ih (fun j hj => hl j (by simp [hj])) _ rfl
  rw [show d + 2 = (d + 1) + 1 from rfl, Op.equalIn]
  simp only [Sem.run_bind, run_underlying hu, Result.andThen_ok, hs, Std.Legacy.Range.forIn_eq_forIn_range']
  have h := key (List.range' 0 n 1) (fun i hi => by have := List.mem_range'.1 hi; omega) (none, ()) rfl
  rw [show [:n].size = n by simp [Std.Legacy.Range.size]]
  rw [h]
  cases (List.range' 0 n 1).all eq
  · simp
  · simp
/-- Are the capacities the same? -/
def matSame (c d : Caps) : Bool := (List.range' 0 17 1).all fun a => (List.range' 0 17 1).all fun b => c a b == d a b
theorem matSame_iff {c d : Caps} : matSame c d = true ↔ ∀ a b, a < 17 → b < 17 → c a b = d a b := by
  simp only [matSame, List.all_eq_true, List.mem_range', beq_iff_eq]
  constructor
  · intro h a b ha hb; exact h a ⟨a, ha, by omega⟩ b ⟨b, hb, by omega⟩
  · rintro h a ⟨i, hi, rfl⟩ b ⟨j, hj, rfl⟩; exact h _ _ (by omega) (by omega)
theorem part_row (c : Caps) (i : Nat) (hi : i < 17) (w : World) : (part 95 (mat c) (i * 17)).run Try.prog w = .ok (.agg (row17 (c i))) w := by
  have hu := Try.underlying95
  have hs : (sizeOf 95).run Try.prog w = .ok 17 w := by kernel_rfl
  have e : (mat c).extract (i * 17) (i * 17 + 17) = row17 (c i) := by
    unfold mat row17
    rw [tab_ext _ (by omega)]
    apply tab_congr
    intro j hj
    rw [(idx17 hj).1, (idx17 hj).2]
  simp [part, isAgg, run_underlying hu, Sem.run_bind, hs, e]
theorem part_cell (f : Nat → Int) (i : Nat) (hi : i < 17) (w : World) : (part 2 (row17 f) (i * 1)).run Try.prog w = .ok (.int .i64 (f i)) w := by
  have hu := Try.underlying2
  have e : (row17 f)[i]? = some (.int .i64 (f i)) := tab_get _ hi
  simp [part, isAgg, run_underlying hu, e]
theorem run_eq_row (d : Nat) (f g : Nat → Int) (w : World) : (Op.equalIn (d + 2) 95 (.agg (row17 f)) (.agg (row17 g))).run Try.prog w = .ok ((List.range' 0 17 1).all fun b => f b == g b) w :=
  run_eq_arr d Try.underlying95 (fun w => by kernel_rfl) (fun i => .int .i64 (f i)) (fun i => .int .i64 (g i)) _ w (fun i hi => part_cell f i hi w) (fun i hi => part_cell g i hi w) (fun i hi => run_equalIn_int w d _ .i64 .i64 _ _ Try.underlying2)
theorem run_eq_mat (d : Nat) (c e : Caps) (w : World) : (Op.equalIn (d + 3) 97 (.agg (mat c)) (.agg (mat e))).run Try.prog w = .ok (matSame c e) w :=
  run_eq_arr (d + 1) Try.underlying97 (fun w => by kernel_rfl) (fun i => .agg (row17 (c i))) (fun i => .agg (row17 (e i))) _ w (fun i hi => part_row c i hi w) (fun i hi => part_row e i hi w) (fun i hi => run_eq_row d _ _ w)
theorem run_eql_mat (c e : Caps) (w : World) : (binOp .eql 97 (.agg (mat c)) (.agg (mat e))).run Try.prog w = .ok (.bool (matSame c e)) w := by
  have h : (Op.equal 97 (.agg (mat c)) (.agg (mat e))).run Try.prog w = .ok (matSame c e) w := run_eq_mat 9997 c e w
  simp only [binOp]
  simp [Sem.run_bind, h]
section
variable {ops : Array Oper} {rest : List Oper} {a : Act} {w : World} {Q : Exit → Act → World → Prop} {dst : Option Tmp} {ty : TypeId} {pos : String} {after : Array Edge} {guard : Option (Nat × Bool)} {p q : Operand} {c e : Caps}
theorem wpl_eqlMat (hw : Region.wanted ⟨dst, .binOp .eql 97 p q 97, ty, pos, after, guard⟩ (yielded ops a.tmps) = true) (hp : a.eval p = .agg (mat c)) (hq : a.eval q = .agg (mat e))
    (h : wpList Try.prog ops Q rest (a.put dst (.bool (matSame c e))) w) : wpList Try.prog ops Q (⟨dst, .binOp .eql 97 p q 97, ty, pos, after, guard⟩ :: rest) a w := by
  refine wpl_pure hw _ (fun w => ?_) h
  have hg : (Try.prog.eqGuardType Try.prog.depth 97) = false := by kernel_rfl
  unfold execOp
  simp only [hp, hq, Sem.run_bind, run_eql_mat c e]
  simp [eqGuard, hg, run_eql_mat c e]
end
section
variable {W w : World} {l : List Thing} {p q : Nat} {c d : Caps} {m : Bool} {R : Ending → World → Prop}
set_option maxRecDepth 100000
set_option maxHeartbeats 1000000
abbrev zeroC : Caps := fun _ _ => 0
theorem all_nil : Ans 57 #[.pointer none] (.agg (mat zeroC)) := by
  intro w
  have h := there_nil
  have H := Heap.start w
  go_enter Try.func57, Try.ntmps57
  go_wp2_with (first | go_skip | ((with_reducible refine Ans.callH (by assumption) H ?_); clear H; intro _ H) | ((with_reducible show wpList _ _ _ (_ :: _) _ _); (with_reducible apply wpl_allocRH row_mat); (· rfl); (· exact H); (clear H; intro pz _ H); (simp only [Act.put, List.setIfInBounds_toArray, List.set_cons_zero, List.set_cons_succ])) | ((with_reducible show wpList _ _ _ (_ :: _) _ _); (with_reducible apply wpl_loadRH row_mat); (· rfl); (· rfl); (· exact H); (· (repeat (first | (with_reducible exact List.mem_cons_self) | with_reducible apply List.mem_cons_of_mem))); (· (simp only [mat_sz, Nat.reduceAdd, Nat.reduceLeDiff, Nat.le_refl]; done)); (· with_reducible exact mat_all ..); (simp only [Act.put, List.setIfInBounds_toArray, List.set_cons_zero, List.set_cons_succ])) | ((with_reducible show wpList _ _ _ (_ :: _) _ _); (with_reducible apply wpl_storeRH row_mat); (· rfl); (· rfl); (· rfl); (· with_reducible exact mat_cells ..); (· exact H); (· (repeat (first | (with_reducible exact List.mem_cons_self) | with_reducible apply List.mem_cons_of_mem))); (· (simp only [mat_sz, Nat.reduceAdd, Nat.reduceLeDiff, Nat.le_refl]; done)); (· with_reducible exact mat_splice ..); (· (repeat (first | (with_reducible exact Repl.here) | with_reducible apply Repl.there))); (clear H; intro _ H); (simp only [Act.put, List.setIfInBounds_toArray, List.set_cons_zero, List.set_cons_succ])))
  exact ret_row1H row_mat rfl rfl rfl H List.mem_cons_self (mat_sz _) ⟨rfl, H.low⟩
theorem all_H (h : Cel p (gr c m) 99 ∈ l) (hz : m = false → c = zeroC) : AnsH W l 57 #[.pointer (some ⟨p, 0, none⟩)] (.agg (mat c)) := by
  intro w H
  cases m
  · obtain rfl := hz rfl
    clear hz
    go_enter Try.func57, Try.ntmps57
    go_wp2_with (first | go_skip | ((with_reducible apply there_call H); (· with_reducible first | exact h | exact List.mem_cons_of_mem _ h); (clear H; intro _ H)) | ((with_reducible show wpList _ _ _ (_ :: _) _ _); (with_reducible apply wpl_allocRH row_mat); (· rfl); (· exact H); (clear H; intro pz _ H); (simp only [Act.put, List.setIfInBounds_toArray, List.set_cons_zero, List.set_cons_succ])) | ((with_reducible show wpList _ _ _ (_ :: _) _ _); (with_reducible apply wpl_loadRH row_mat); (· rfl); (· rfl); (· exact H); (· (repeat (first | (with_reducible exact List.mem_cons_self) | with_reducible apply List.mem_cons_of_mem))); (· (simp only [mat_sz, Nat.reduceAdd, Nat.reduceLeDiff, Nat.le_refl]; done)); (· with_reducible exact mat_all ..); (simp only [Act.put, List.setIfInBounds_toArray, List.set_cons_zero, List.set_cons_succ])) | ((with_reducible show wpList _ _ _ (_ :: _) _ _); (with_reducible apply wpl_storeRH row_mat); (· rfl); (· rfl); (· rfl); (· with_reducible exact mat_cells ..); (· exact H); (· (repeat (first | (with_reducible exact List.mem_cons_self) | with_reducible apply List.mem_cons_of_mem))); (· (simp only [mat_sz, Nat.reduceAdd, Nat.reduceLeDiff, Nat.le_refl]; done)); (· with_reducible exact mat_splice ..); (· (repeat (first | (with_reducible exact Repl.here) | with_reducible apply Repl.there))); (clear H; intro _ H); (simp only [Act.put, List.setIfInBounds_toArray, List.set_cons_zero, List.set_cons_succ])))
    exact ret_row1H row_mat rfl rfl rfl H List.mem_cons_self (mat_sz _) ⟨rfl, H.tail⟩
  · clear hz
    go_enter Try.func57, Try.ntmps57
    go_wp2_with (first
      | go_skip
      | ((with_reducible apply there_call H); (· with_reducible first | exact h | exact List.mem_cons_of_mem _ h); (clear H; intro _ H))
      | ((with_reducible show wpList _ _ _ (_ :: _) _ _); (with_reducible apply wpl_allocRH row_mat); (· rfl); (· exact H); (clear H; intro pz _ H); (simp only [Act.put, List.setIfInBounds_toArray, List.set_cons_zero, List.set_cons_succ]))
      | ((with_reducible show wpList _ _ _ (_ :: _) _ _); (with_reducible apply wpl_loadRH row_mat); (· rfl); (· rfl); (· exact H); (· exact List.mem_cons_of_mem _ h); (· (simp only [gr_sz, Nat.reduceAdd, Nat.reduceLeDiff]; done)); (· exact gr_caps _ _); (simp only [Act.put, List.setIfInBounds_toArray, List.set_cons_zero, List.set_cons_succ]))
      | ((with_reducible show wpList _ _ _ (_ :: _) _ _); (with_reducible apply wpl_loadRH row_mat); (· rfl); (· rfl); (· exact H); (· (repeat (first | (with_reducible exact List.mem_cons_self) | with_reducible apply List.mem_cons_of_mem))); (· (simp only [mat_sz, Nat.reduceAdd, Nat.reduceLeDiff, Nat.le_refl]; done)); (· with_reducible exact mat_all ..); (simp only [Act.put, List.setIfInBounds_toArray, List.set_cons_zero, List.set_cons_succ]))
      | ((with_reducible show wpList _ _ _ (_ :: _) _ _); (with_reducible apply wpl_storeRH row_mat); (· rfl); (· rfl); (· rfl); (· with_reducible exact mat_cells ..); (· exact H); (· (repeat (first | (with_reducible exact List.mem_cons_self) | with_reducible apply List.mem_cons_of_mem))); (· (simp only [mat_sz, Nat.reduceAdd, Nat.reduceLeDiff, Nat.le_refl]; done)); (· with_reducible exact mat_splice ..); (· (repeat (first | (with_reducible exact Repl.here) | with_reducible apply Repl.there))); (clear H; intro _ H); (simp only [Act.put, List.setIfInBounds_toArray, List.set_cons_zero, List.set_cons_succ])))
    exact ret_row1H row_mat rfl rfl rfl H List.mem_cons_self (mat_sz _) ⟨rfl, H.tail⟩
theorem same_ans (v1 v2 : Value) (h1 : AnsH W l 57 #[v1] (.agg (mat c))) (h2 : AnsH W l 57 #[v2] (.agg (mat d))) : AnsH W l 19 #[v1, v2] (.bool (matSame c d)) := by
  intro w H
  go_enter Try.func19, Try.ntmps19
  go_wp2_with (first | go_skip | ((with_reducible refine AnsH.call (by assumption) H ?_); clear H; intro _ H) | ((with_reducible show wpList _ _ _ (_ :: _) _ _); (with_reducible apply wpl_eqlMat); (· rfl); (· rfl); (· rfl); (simp only [Act.put, List.setIfInBounds_toArray, List.set_cons_zero, List.set_cons_succ])))
  go_ret
  exact ⟨rfl, H⟩
theorem copy_nil : Ans 20 #[.pointer none] (.pointer none) := by
  intro w
  have h := there_nil
  go_enter Try.func20, Try.ntmps20
  go_wp2_with (first | go_skip | ((with_reducible refine Ans.call (by assumption) ?_); intro _))
  go_ret
  exact ⟨rfl, (by repeat (first | exact Ext.refl _ | refine Ext.alloc ?_ _ | refine Ext.ext ?_ _ | refine Ext.drew ?_))⟩
theorem copy_zero (h : Cel p (gr c false) 99 ∈ l) : AnsH W l 20 #[.pointer (some ⟨p, 0, none⟩)] (.pointer none) := by
  intro w H
  go_enter Try.func20, Try.ntmps20
  go_wp2_with (first | go_skip | ((with_reducible apply there_call H); (· exact h); (clear H; intro _ H)))
  go_ret
  exact ⟨rfl, H⟩
theorem copy_H (H : Heap W l w) (h : Gr p c ∈ l) : Calls Try.prog 20 #[.pointer (some ⟨p, 0, none⟩)] w fun e w' => ∃ q, e = .returned (.pointer (some ⟨q, 0, none⟩)) ∧ Heap W (Gr q c :: l) w' := by
  go_enter Try.func20, Try.ntmps20
  go_wp2_with (first
    | go_skip
    | ((with_reducible apply there_call H); (· exact h); (clear H; intro _ H))
    | ((with_reducible show wpList _ _ _ (_ :: _) _ _); (with_reducible apply wpl_allocRH row_gr); (· rfl); (· exact H); (clear H; intro pz _ H); (simp only [Act.put, List.setIfInBounds_toArray, List.set_cons_zero, List.set_cons_succ]))
    | ((with_reducible show wpList _ _ _ (_ :: _) _ _); (with_reducible apply wpl_loadRH row_gr); (· rfl); (· rfl); (· exact H); (· exact h); (· (simp only [gr_sz, Nat.reduceAdd, Nat.reduceLeDiff, Nat.le_refl]; done)); (· exact gr_all _ _); (simp only [Act.put, List.setIfInBounds_toArray, List.set_cons_zero, List.set_cons_succ]))
    | ((with_reducible show wpList _ _ _ (_ :: _) _ _); (with_reducible apply wpl_storeRH row_gr); (· rfl); (· rfl); (· rfl); (· with_reducible exact gr_cells ..); (· exact H); (· (repeat (first | (with_reducible exact List.mem_cons_self) | with_reducible apply List.mem_cons_of_mem))); (· (simp only [gr_sz, Nat.reduceAdd, Nat.reduceLeDiff, Nat.le_refl]; done)); (· with_reducible exact gr_splice ..); (· (repeat (first | (with_reducible exact Repl.here) | with_reducible apply Repl.there))); (clear H; intro _ H); (simp only [Act.put, List.setIfInBounds_toArray, List.set_cons_zero, List.set_cons_succ])))
  go_ret
  exact ⟨pz, rfl, H⟩
theorem push_nil (a b : Nat) (n : Int) : Ans 17 #[.pointer none, .int .u8 (a : Int), .int .u8 (b : Int), .int .i64 n] (.int .i64 2) := by
  intro w
  have h := there_nil
  go_enter Try.func17, Try.ntmps17
  go_wp2_with (first | go_skip | ((with_reducible refine Ans.call (by assumption) ?_); intro _))
  go_ret
  exact ⟨rfl, (by repeat (first | exact Ext.refl _ | refine Ext.alloc ?_ _ | refine Ext.ext ?_ _ | refine Ext.drew ?_))⟩
theorem push_zero (a b : Nat) (n : Int) (h : Cel p (gr c false) 99 ∈ l) : AnsH W l 17 #[.pointer (some ⟨p, 0, none⟩), .int .u8 (a : Int), .int .u8 (b : Int), .int .i64 n] (.int .i64 2) := by
  intro w H
  go_enter Try.func17, Try.ntmps17
  go_wp2_with (first | go_skip | ((with_reducible apply there_call H); (· exact h); (clear H; intro _ H)))
  go_ret
  exact ⟨rfl, H⟩
/-- Behind a push: less one way, more the other. -/
def pushC (c : Caps) (a b : Nat) (n : Int) : Caps := upd2 (upd2 c a b (c a b - n)) b a (upd2 c a b (c a b - n) b a + n)
theorem push_arg (a b : Nat) (n : Int) (h : Gr p c ∈ l) (hn : n < 1) : AnsH W l 17 #[.pointer (some ⟨p, 0, none⟩), .int .u8 (a : Int), .int .u8 (b : Int), .int .i64 n] (.int .i64 1) := by
  intro w H
  go_enter Try.func17, Try.ntmps17
  go_wp2_with (first | go_skip | ((with_reducible apply there_call H); (· exact h); (clear H; intro _ H)))
  go_ret
  exact ⟨rfl, H⟩
theorem push_route (a b : Nat) (n : Int) (ha : a ≤ 255) (hb : b ≤ 255) (h : Gr p c ∈ l) (hn : 1 ≤ n) (hc : capOf c a b < n) : AnsH W l 17 #[.pointer (some ⟨p, 0, none⟩), .int .u8 (a : Int), .int .u8 (b : Int), .int .i64 n] (.int .i64 11) := by
  intro w H
  have hcap := cap_H (W := W) a b ha hb h
  go_enter Try.func17, Try.ntmps17
  go_wp2_with (first | go_skip | ((with_reducible apply there_call H); (· exact h); (clear H; intro _ H)) | ((with_reducible refine AnsH.call (by assumption) H ?_); clear H; intro _ H))
  go_ret
  exact ⟨rfl, H⟩
theorem push_ok (a b : Nat) (n : Int) (h1 : 1 ≤ a) (h2 : a ≤ 16) (h3 : 1 ≤ b) (h4 : b ≤ 16) (H : Heap W (Gr p c :: l) w) (hn : 1 ≤ n) (hc : n ≤ c a b) (hx : c a b ≤ 4611686018427387904) (hy : 0 ≤ upd2 c a b (c a b - n) b a) (hz : upd2 c a b (c a b - n) b a + n ≤ 9223372036854775807) :
    Calls Try.prog 17 #[.pointer (some ⟨p, 0, none⟩), .int .u8 (a : Int), .int .u8 (b : Int), .int .i64 n] w fun e w' => e = .returned (.int .i64 0) ∧ Heap W (Gr p (pushC c a b n) :: l) w' := by
  have hcap := cap_H (W := W) (l := Gr p c :: l) (p := p) (c := c) a b (by omega) (by omega) List.mem_cons_self
  rw [show capOf c a b = c a b by simp [capOf, mayP, h1, h2, h3, h4]] at hcap
  have a1 : a < 17 := by omega
  have b1 : b < 17 := by omega
  have hs1 : wrap64 (c a b - n) = c a b - n := IntWalk.wrap64_in _ ⟨by omega, by omega⟩
  have hs2 : wrap64 (upd2 c a b (c a b - n) b a + n) = upd2 c a b (c a b - n) b a + n := IntWalk.wrap64_in _ ⟨by omega, by omega⟩
  unfold pushC
  go_enter Try.func17, Try.ntmps17
  go_wp2_with (first | go_skip | ((with_reducible apply there_call H); (· exact List.mem_cons_self); (clear H; intro _ H)) | ((with_reducible refine AnsH.call (by assumption) H ?_); clear H; intro _ H))
  refine wp_region_H_tail 14 H (by kernel_rfl) (by kernel_rfl) ?_
  simp only [List.take_succ_cons, List.take_zero, List.drop_succ_cons, List.drop_zero]
  repeat (first | go_big_quiet_skip | ((with_reducible apply wpQ_loadCH); (· exact cell_i64); (· rfl); (· rfl); (· exact List.mem_cons_self); (· exact gr_get _ _ a1 b1); (simp only [Act.put, List.setIfInBounds_toArray, List.set_cons_zero, List.set_cons_succ])) | go_big_quiet_step (fail))
  refine wpQuiet_nil ?_
  clear H
  intro _ H
  try rw [hs1]
  go_wp2_with ((with_reducible show wpList _ _ _ (_ :: _) _ _); (with_reducible apply wpl_storeIH); (· exact cell_i64); (· rfl); (· rfl); (· rfl); (· exact H); (· (repeat (first | (with_reducible exact List.mem_cons_self) | with_reducible apply List.mem_cons_of_mem))); (· (rw [gr_sz]; omega)); (· exact gr_set _ _ a1 b1 _); (· (repeat (first | (with_reducible exact Repl.here) | with_reducible apply Repl.there))); (clear H; intro _ H); (simp only [Act.put, List.setIfInBounds_toArray, List.set_cons_zero, List.set_cons_succ]))
  refine wp_region_H_tail 14 H (by kernel_rfl) (by kernel_rfl) ?_
  simp only [List.take_succ_cons, List.take_zero, List.drop_succ_cons, List.drop_zero]
  repeat (first | go_big_quiet_skip | ((with_reducible apply wpQ_loadCH); (· exact cell_i64); (· rfl); (· rfl); (· exact List.mem_cons_self); (· exact gr_get _ _ b1 a1); (simp only [Act.put, List.setIfInBounds_toArray, List.set_cons_zero, List.set_cons_succ])) | go_big_quiet_step (fail))
  refine wpQuiet_nil ?_
  clear H
  intro _ H
  try rw [hs2]
  go_wp2_with ((with_reducible show wpList _ _ _ (_ :: _) _ _); (with_reducible apply wpl_storeIH); (· exact cell_i64); (· rfl); (· rfl); (· rfl); (· exact H); (· (repeat (first | (with_reducible exact List.mem_cons_self) | with_reducible apply List.mem_cons_of_mem))); (· (rw [gr_sz]; omega)); (· exact gr_set _ _ b1 a1 _); (· (repeat (first | (with_reducible exact Repl.here) | with_reducible apply Repl.there))); (clear H; intro _ H); (simp only [Act.put, List.setIfInBounds_toArray, List.set_cons_zero, List.set_cons_succ]))
  go_ret
  exact ⟨rfl, H⟩
end
end Go.Proofs.Ytgobnamhdkbbeaa

/- graphs.New: of edges. -/
namespace Go.Proofs.Ytgobnamhdkbbeaa
open Go.RowKit
set_option linter.unusedSimpArgs false
set_option linter.unusedVariables false
/-- A flow: from, to, how much. -/
structure Flw where
  f : Nat
  t : Nat
  n : Int
def flwV (x : Flw) : List Value := [.int .u8 (x.f : Int), .int .u8 (x.t : Int), .int .i64 x.n]
def flwL (F : List Flw) : List Value := F.flatMap flwV
theorem flwL_len (F : List Flw) : (flwL F).length = F.length * 3 := by
  induction F with
  | nil => rfl
  | cons x F ih => simp only [flwL, List.flatMap_cons, List.length_append] at *; rw [ih]; simp [flwV, Nat.add_mul]; omega
theorem flwL_at (F : List Flw) (i : Nat) (h : i < F.length) : ((flwL F).drop (i * 3)).take 3 = flwV F[i] := by
  induction F generalizing i with
  | nil => simp at h
  | cons x F ih =>
    rcases i with _ | i
    · simp [flwL, flwV]
    · have : (i + 1) * 3 = 3 + i * 3 := by omega
      rw [this, ← List.drop_drop]
      simp only [List.length_cons] at h
      have := ih i (by omega)
      simpa [flwL, flwV] using this
/-- Such as can be: numbers of their types. -/
def FlwOk (x : Flw) : Prop := x.f ≤ 255 ∧ x.t ≤ 255 ∧ -9223372036854775808 ≤ x.n ∧ x.n ≤ 9223372036854775807
def flow (f : Int) (t : Int) (n : Int) : Array Value := #[.int .u8 f, .int .u8 t, .int .i64 n]
section
variable (f : Int) (t : Int) (n : Int)
theorem flow_sz : (flow f t n).size = 3 := rfl
theorem flow_g0 : (flow f t n)[0]? = some (.int .u8 f) := rfl
theorem flow_s0 (v : Int) : (flow f t n).setIfInBounds 0 (.int .u8 v) = flow v t n := rfl
theorem flow_g1 : (flow f t n)[1]? = some (.int .u8 t) := rfl
theorem flow_s1 (v : Int) : (flow f t n).setIfInBounds 1 (.int .u8 v) = flow f v n := rfl
theorem flow_g2 : (flow f t n)[2]? = some (.int .i64 n) := rfl
theorem flow_s2 (v : Int) : (flow f t n).setIfInBounds 2 (.int .i64 v) = flow f t v := rfl
end
theorem flow_all (f t n : Int) : (flow f t n).extract 0 (0 + 3) = flow f t n := by simp [flow]
theorem flow_cells (f t n : Int) : Cells 3 (flow f t n) := ⟨rfl, by simp [flow, Value.oneCell']⟩
theorem flow_splice (a b c f t n : Int) : splice (flow a b c) 0 (flow f t n) = flow f t n := splice_all rfl
theorem row_flow : RowTy 32 3 (flow 0 0 0) := ⟨⟨_, Try.underlying32, rfl⟩, by kernel_rfl, by kernel_rfl⟩
/-- May an edge be, by itself? -/
def edgeB (x : Flw) : Bool := mayP x.f && mayP x.t && (x.f != x.t) && decide (0 ≤ x.n) && decide (x.n ≤ 2199023255552)
/-- The capacities of edges; none, if they may not be. -/
def newS : List Flw → (Nat → Nat → Bool) → Caps → Option Caps
  | [], _, c => some c
  | x :: xs, t, c => if edgeB x && !t x.f x.t then newS xs (upd2 t x.f x.t true) (upd2 c x.f x.t x.n) else none
def newG (F : List Flw) : Option Caps := newS F (fun _ _ => false) zeroC
/-- What New answers. -/
def NewPost (W : World) (l : List Thing) (r : Option Caps) (e : Ending) (w' : World) : Prop := match r with
  | some c => ∃ p, e = .returned (.tuple #[.pointer (some ⟨p, 0, none⟩), .int .i64 0]) ∧ Heap W (Gr p c :: l) w'
  | none => e = .returned (.tuple #[.pointer none, .int .i64 1]) ∧ Heap W l w'
theorem NewPost.no {W : World} {l : List Thing} {w' : World} (h : Heap W l w') : NewPost W l none (.returned (.tuple #[.pointer none, .int .i64 1])) w' := ⟨rfl, h⟩
theorem NewPost.yes {W : World} {l : List Thing} {w' : World} {c : Caps} (p : Nat) (h : Heap W (Gr p c :: l) w') : NewPost W l (some c) (.returned (.tuple #[.pointer (some ⟨p, 0, none⟩), .int .i64 0])) w' := ⟨p, rfl, h⟩
theorem newS_no {x : Flw} {xs : List Flw} {t : Nat → Nat → Bool} {c : Caps} (h : (edgeB x && !t x.f x.t) = false) : newS (x :: xs) t c = none := by
  rw [newS, if_neg (by rw [h]; exact Bool.false_ne_true)]
theorem newS_yes {x : Flw} {xs : List Flw} {t : Nat → Nat → Bool} {c : Caps} (h : (edgeB x && !t x.f x.t) = true) : newS (x :: xs) t c = newS xs (upd2 t x.f x.t true) (upd2 c x.f x.t x.n) := by
  rw [newS, if_pos h]
theorem zero_gr : Try.zeroCells99.setIfInBounds 289 (.bool true) = gr zeroC true := by kernel_rfl
section
variable {W w : World} {l : List Thing}
set_option maxRecDepth 100000
set_option maxHeartbeats 4000000
theorem new_H (ea : Option Addr) (en ec : Nat) (F : List Flw) (hl : F.length = en) (hm : en ≤ 9223372036854775807) (hF : ∀ x ∈ F, FlwOk x) (R : ∀ w', Heap W l w' → Rd w' ea (flwL F)) (H : Heap W l w) :
    Calls Try.prog 49 #[.slice ea en ec] w (NewPost W l (newG F)) := by
  have HL := Lib.hid hl
  have HF := Lib.hid hF
  have HR := Lib.hid R
  clear hl hF R
  go_enter Try.func49, Try.ntmps49
  go_wp2_with (first
    | go_skip
    | ((with_reducible show wpList _ _ _ (_ :: _) _ _); (with_reducible apply wpl_boxRH); (· rfl); (· rfl); (· exact H); (clear H; intro p _ H); (simp only [Act.put, List.setIfInBounds_toArray, List.set_cons_zero, List.set_cons_succ]))
    | ((with_reducible show wpList _ _ _ (_ :: _) _ _); (with_reducible apply wpl_allocRH row_matB); (· rfl); (· exact H); (clear H; intro pt _ H); (simp only [Act.put, List.setIfInBounds_toArray, List.set_cons_zero, List.set_cons_succ])))
  rw [zero_gr] at H
  have hstart : newG F = newS (F.drop 0) (fun _ _ => false) zeroC := rfl
  go_loopw [12] (fun i wr => ∃ (k : Nat) (t : Nat → Nat → Bool) (c : Caps), k ≤ en ∧ i = .int .i64 k ∧ newG F = newS (F.drop k) t c ∧ Heap W (Cel pt (matB t) 143 :: Gr p c :: l) wr) (fun i _ => en - (intOf i).toNat)
  case atStart => exact ⟨0, _, _, Nat.zero_le _, rfl, hstart, H⟩
  case round =>
    obtain ⟨k, t, c, hk, rfl, hG, H'⟩ := hrel
    clear H hstart
    have H := H'
    clear H'
    by_cases hlt : k < en
    · have hkF : k < F.length := by rw [HL.out]; exact hlt
      have hok := HF.out F[k] (List.getElem_mem hkF)
      have hat := flwL_at F k hkF
      have hlen : k * 3 + 3 ≤ (flwL F).length := by rw [flwL_len]; omega
      rw [List.drop_eq_getElem_cons hkF] at hG
      generalize F[k] = x at *
      obtain ⟨a, b, n⟩ := x
      obtain ⟨h1, h2, h3, h4⟩ := hok
      simp only at h1 h2 h3 h4
      have hrow : (((flwL F).drop (k * 3)).take 3).toArray = flow a b n := by rw [hat]; rfl
      obtain ⟨eb, eo, rfl, _⟩ := (HR.out _ H.tail.tail).lt (by omega)
      have m1 := may_ans a h1
      have m2 := may_ans b h2
      have HG := Lib.hid hG
      clear hG hat hkF
      cases e1 : mayP a
      · rw [e1] at m1
        have E1 := Lib.hid e1
        clear e1
        go_wp2_with (first
          | go_skip
          | ((with_reducible show wpList _ _ _ (_ :: _) _ _); (with_reducible apply wpl_loadRdR row_flow); (· rfl); (· rfl); (· exact HR.out _ H.tail.tail); (· rfl); (· exact hlen); (· decide); (· exact hrow); (simp only [Act.put, List.setIfInBounds_toArray, List.set_cons_zero, List.set_cons_succ]))
          | ((with_reducible show wpList _ _ _ (_ :: _) _ _); (with_reducible apply wpl_allocRH row_flow); (· rfl); (· exact H); (clear H; intro px _ H); (simp only [Act.put, List.setIfInBounds_toArray, List.set_cons_zero, List.set_cons_succ]))
          | ((with_reducible show wpList _ _ _ (_ :: _) _ _); (with_reducible apply wpl_storeRH row_flow); (· rfl); (· rfl); (· rfl); (· with_reducible exact flow_cells ..); (· exact H); (· (repeat (first | (with_reducible exact List.mem_cons_self) | with_reducible apply List.mem_cons_of_mem))); (· (simp only [flow_sz, Nat.reduceAdd, Nat.reduceLeDiff, Nat.le_refl]; done)); (· with_reducible exact flow_splice ..); (· (repeat (first | (with_reducible exact Repl.here) | with_reducible apply Repl.there))); (clear H; intro _ H); (simp only [Act.put, List.setIfInBounds_toArray, List.set_cons_zero, List.set_cons_succ]))
          | ((with_reducible show wpList _ _ _ (_ :: _) _ _); (with_reducible apply wpl_loadCH); (· first | exact cell_party | exact cell_i64); (· rfl); (· rfl); (· exact H); (· (repeat (first | (with_reducible exact List.mem_cons_self) | with_reducible apply List.mem_cons_of_mem))); (· (with_reducible first | exact flow_g0 .. | exact flow_g1 .. | exact flow_g2 ..)); (simp only [Act.put, List.setIfInBounds_toArray, List.set_cons_zero, List.set_cons_succ]))
          | ((with_reducible refine Ans.callH (by assumption) H ?_); clear H; intro _ H))
        rw [HG.out, newS_no (by simp [edgeB, E1.out])]
        go_ret2
        exact NewPost.no H.tail.tail.tail
      · rw [e1] at m1
        have E1 := Lib.hid e1
        have a1 : a < 17 := by have := mayP_true e1; omega
        clear e1
        cases e2 : mayP b
        · rw [e2] at m2
          have E2 := Lib.hid e2
          clear e2
          go_wp2_with (first
            | go_skip
            | ((with_reducible show wpList _ _ _ (_ :: _) _ _); (with_reducible apply wpl_loadRdR row_flow); (· rfl); (· rfl); (· exact HR.out _ H.tail.tail); (· rfl); (· exact hlen); (· decide); (· exact hrow); (simp only [Act.put, List.setIfInBounds_toArray, List.set_cons_zero, List.set_cons_succ]))
            | ((with_reducible show wpList _ _ _ (_ :: _) _ _); (with_reducible apply wpl_allocRH row_flow); (· rfl); (· exact H); (clear H; intro px _ H); (simp only [Act.put, List.setIfInBounds_toArray, List.set_cons_zero, List.set_cons_succ]))
            | ((with_reducible show wpList _ _ _ (_ :: _) _ _); (with_reducible apply wpl_storeRH row_flow); (· rfl); (· rfl); (· rfl); (· with_reducible exact flow_cells ..); (· exact H); (· (repeat (first | (with_reducible exact List.mem_cons_self) | with_reducible apply List.mem_cons_of_mem))); (· (simp only [flow_sz, Nat.reduceAdd, Nat.reduceLeDiff, Nat.le_refl]; done)); (· with_reducible exact flow_splice ..); (· (repeat (first | (with_reducible exact Repl.here) | with_reducible apply Repl.there))); (clear H; intro _ H); (simp only [Act.put, List.setIfInBounds_toArray, List.set_cons_zero, List.set_cons_succ]))
            | ((with_reducible show wpList _ _ _ (_ :: _) _ _); (with_reducible apply wpl_loadCH); (· first | exact cell_party | exact cell_i64); (· rfl); (· rfl); (· exact H); (· (repeat (first | (with_reducible exact List.mem_cons_self) | with_reducible apply List.mem_cons_of_mem))); (· (with_reducible first | exact flow_g0 .. | exact flow_g1 .. | exact flow_g2 ..)); (simp only [Act.put, List.setIfInBounds_toArray, List.set_cons_zero, List.set_cons_succ]))
            | ((with_reducible refine Ans.callH (by assumption) H ?_); clear H; intro _ H))
          rw [HG.out, newS_no (by simp [edgeB, E2.out])]
          go_ret2
          exact NewPost.no H.tail.tail.tail
        · rw [e2] at m2
          have E2 := Lib.hid e2
          have b1 : b < 17 := by have := mayP_true e2; omega
          clear e2
          by_cases e3 : a = b
          · subst e3
            go_wp2_with (first
              | go_skip
              | ((with_reducible show wpList _ _ _ (_ :: _) _ _); (with_reducible apply wpl_loadRdR row_flow); (· rfl); (· rfl); (· exact HR.out _ H.tail.tail); (· rfl); (· exact hlen); (· decide); (· exact hrow); (simp only [Act.put, List.setIfInBounds_toArray, List.set_cons_zero, List.set_cons_succ]))
              | ((with_reducible show wpList _ _ _ (_ :: _) _ _); (with_reducible apply wpl_allocRH row_flow); (· rfl); (· exact H); (clear H; intro px _ H); (simp only [Act.put, List.setIfInBounds_toArray, List.set_cons_zero, List.set_cons_succ]))
              | ((with_reducible show wpList _ _ _ (_ :: _) _ _); (with_reducible apply wpl_storeRH row_flow); (· rfl); (· rfl); (· rfl); (· with_reducible exact flow_cells ..); (· exact H); (· (repeat (first | (with_reducible exact List.mem_cons_self) | with_reducible apply List.mem_cons_of_mem))); (· (simp only [flow_sz, Nat.reduceAdd, Nat.reduceLeDiff, Nat.le_refl]; done)); (· with_reducible exact flow_splice ..); (· (repeat (first | (with_reducible exact Repl.here) | with_reducible apply Repl.there))); (clear H; intro _ H); (simp only [Act.put, List.setIfInBounds_toArray, List.set_cons_zero, List.set_cons_succ]))
              | ((with_reducible show wpList _ _ _ (_ :: _) _ _); (with_reducible apply wpl_loadCH); (· first | exact cell_party | exact cell_i64); (· rfl); (· rfl); (· exact H); (· (repeat (first | (with_reducible exact List.mem_cons_self) | with_reducible apply List.mem_cons_of_mem))); (· (with_reducible first | exact flow_g0 .. | exact flow_g1 .. | exact flow_g2 ..)); (simp only [Act.put, List.setIfInBounds_toArray, List.set_cons_zero, List.set_cons_succ]))
              | ((with_reducible refine Ans.callH (by assumption) H ?_); clear H; intro _ H))
            rw [HG.out, newS_no (by simp [edgeB, E1.out])]
            go_ret2
            exact NewPost.no H.tail.tail.tail
          · have e3' : ((a : Int) == (b : Int)) = false := by simp; omega
            have e3'' : (a == b) = false := by simpa using e3
            have E3 := Lib.hid e3
            clear e3
            by_cases e4 : n < 0
            · skip
              go_wp2_with (first
                | go_skip
                | ((with_reducible show wpList _ _ _ (_ :: _) _ _); (with_reducible apply wpl_loadRdR row_flow); (· rfl); (· rfl); (· exact HR.out _ H.tail.tail); (· rfl); (· exact hlen); (· decide); (· exact hrow); (simp only [Act.put, List.setIfInBounds_toArray, List.set_cons_zero, List.set_cons_succ]))
                | ((with_reducible show wpList _ _ _ (_ :: _) _ _); (with_reducible apply wpl_allocRH row_flow); (· rfl); (· exact H); (clear H; intro px _ H); (simp only [Act.put, List.setIfInBounds_toArray, List.set_cons_zero, List.set_cons_succ]))
                | ((with_reducible show wpList _ _ _ (_ :: _) _ _); (with_reducible apply wpl_storeRH row_flow); (· rfl); (· rfl); (· rfl); (· with_reducible exact flow_cells ..); (· exact H); (· (repeat (first | (with_reducible exact List.mem_cons_self) | with_reducible apply List.mem_cons_of_mem))); (· (simp only [flow_sz, Nat.reduceAdd, Nat.reduceLeDiff, Nat.le_refl]; done)); (· with_reducible exact flow_splice ..); (· (repeat (first | (with_reducible exact Repl.here) | with_reducible apply Repl.there))); (clear H; intro _ H); (simp only [Act.put, List.setIfInBounds_toArray, List.set_cons_zero, List.set_cons_succ]))
                | ((with_reducible show wpList _ _ _ (_ :: _) _ _); (with_reducible apply wpl_loadCH); (· first | exact cell_party | exact cell_i64); (· rfl); (· rfl); (· exact H); (· (repeat (first | (with_reducible exact List.mem_cons_self) | with_reducible apply List.mem_cons_of_mem))); (· (with_reducible first | exact flow_g0 .. | exact flow_g1 .. | exact flow_g2 ..)); (simp only [Act.put, List.setIfInBounds_toArray, List.set_cons_zero, List.set_cons_succ]))
                | ((with_reducible refine Ans.callH (by assumption) H ?_); clear H; intro _ H))
              rw [HG.out, newS_no (by simp [edgeB, show ¬ 0 ≤ n by omega])]
              go_ret2
              exact NewPost.no H.tail.tail.tail
            · by_cases e5 : 2199023255552 < n
              · skip
                go_wp2_with (first
                  | go_skip
                  | ((with_reducible show wpList _ _ _ (_ :: _) _ _); (with_reducible apply wpl_loadRdR row_flow); (· rfl); (· rfl); (· exact HR.out _ H.tail.tail); (· rfl); (· exact hlen); (· decide); (· exact hrow); (simp only [Act.put, List.setIfInBounds_toArray, List.set_cons_zero, List.set_cons_succ]))
                  | ((with_reducible show wpList _ _ _ (_ :: _) _ _); (with_reducible apply wpl_allocRH row_flow); (· rfl); (· exact H); (clear H; intro px _ H); (simp only [Act.put, List.setIfInBounds_toArray, List.set_cons_zero, List.set_cons_succ]))
                  | ((with_reducible show wpList _ _ _ (_ :: _) _ _); (with_reducible apply wpl_storeRH row_flow); (· rfl); (· rfl); (· rfl); (· with_reducible exact flow_cells ..); (· exact H); (· (repeat (first | (with_reducible exact List.mem_cons_self) | with_reducible apply List.mem_cons_of_mem))); (· (simp only [flow_sz, Nat.reduceAdd, Nat.reduceLeDiff, Nat.le_refl]; done)); (· with_reducible exact flow_splice ..); (· (repeat (first | (with_reducible exact Repl.here) | with_reducible apply Repl.there))); (clear H; intro _ H); (simp only [Act.put, List.setIfInBounds_toArray, List.set_cons_zero, List.set_cons_succ]))
                  | ((with_reducible show wpList _ _ _ (_ :: _) _ _); (with_reducible apply wpl_loadCH); (· first | exact cell_party | exact cell_i64); (· rfl); (· rfl); (· exact H); (· (repeat (first | (with_reducible exact List.mem_cons_self) | with_reducible apply List.mem_cons_of_mem))); (· (with_reducible first | exact flow_g0 .. | exact flow_g1 .. | exact flow_g2 ..)); (simp only [Act.put, List.setIfInBounds_toArray, List.set_cons_zero, List.set_cons_succ]))
                  | ((with_reducible refine Ans.callH (by assumption) H ?_); clear H; intro _ H))
                rw [HG.out, newS_no (by simp [edgeB, show ¬ n ≤ 2199023255552 by omega])]
                go_ret2
                exact NewPost.no H.tail.tail.tail
              · skip
                go_wp2_with (first
                  | go_skip
                  | ((with_reducible show wpList _ _ _ (_ :: _) _ _); (with_reducible apply wpl_loadRdR row_flow); (· rfl); (· rfl); (· exact HR.out _ H.tail.tail); (· rfl); (· exact hlen); (· decide); (· exact hrow); (simp only [Act.put, List.setIfInBounds_toArray, List.set_cons_zero, List.set_cons_succ]))
                  | ((with_reducible show wpList _ _ _ (_ :: _) _ _); (with_reducible apply wpl_allocRH row_flow); (· rfl); (· exact H); (clear H; intro px _ H); (simp only [Act.put, List.setIfInBounds_toArray, List.set_cons_zero, List.set_cons_succ]))
                  | ((with_reducible show wpList _ _ _ (_ :: _) _ _); (with_reducible apply wpl_storeRH row_flow); (· rfl); (· rfl); (· rfl); (· with_reducible exact flow_cells ..); (· exact H); (· (repeat (first | (with_reducible exact List.mem_cons_self) | with_reducible apply List.mem_cons_of_mem))); (· (simp only [flow_sz, Nat.reduceAdd, Nat.reduceLeDiff, Nat.le_refl]; done)); (· with_reducible exact flow_splice ..); (· (repeat (first | (with_reducible exact Repl.here) | with_reducible apply Repl.there))); (clear H; intro _ H); (simp only [Act.put, List.setIfInBounds_toArray, List.set_cons_zero, List.set_cons_succ]))
                  | ((with_reducible show wpList _ _ _ (_ :: _) _ _); (with_reducible apply wpl_loadCH); (· first | exact cell_party | exact cell_i64); (· rfl); (· rfl); (· exact H); (· (repeat (first | (with_reducible exact List.mem_cons_self) | with_reducible apply List.mem_cons_of_mem))); (· (with_reducible first | exact flow_g0 .. | exact flow_g1 .. | exact flow_g2 ..)); (simp only [Act.put, List.setIfInBounds_toArray, List.set_cons_zero, List.set_cons_succ]))
                  | ((with_reducible refine Ans.callH (by assumption) H ?_); clear H; intro _ H))
                refine wp_region_H H (by kernel_rfl) (by kernel_rfl) ?_
                repeat (first | go_big_quiet_skip | ((with_reducible apply wpQ_loadCH); (· exact cell_party); (· rfl); (· rfl); (· (repeat (first | (with_reducible exact List.mem_cons_self) | with_reducible apply List.mem_cons_of_mem))); (· (with_reducible first | exact flow_g0 .. | exact flow_g1 .. | exact flow_g2 ..)); (simp only [Act.put, List.setIfInBounds_toArray, List.set_cons_zero, List.set_cons_succ])) | ((with_reducible apply wpQ_loadCH); (· exact cell_bool); (· rfl); (· rfl); (· (repeat (first | (with_reducible exact List.mem_cons_self) | with_reducible apply List.mem_cons_of_mem))); (· exact matB_get _ a1 b1); (simp only [Act.put, List.setIfInBounds_toArray, List.set_cons_zero, List.set_cons_succ])) | go_big_quiet_step (fail))
                refine wpQuiet_nil ?_
                clear H
                intro _ H
                cases e6 : t a b
                · have E6 := Lib.hid e6
                  clear e6
                  go_wp2_with fail
                  replace H := (H.pull (.there .here)).perm (.cons _ (.swap _ _ _))
                  refine wp_region_O [13, 18] [0, 1, 2, 3, 4, 5, 6, 7, 8, 9, 10, 11, 12, 14, 15, 16, 13, 17, 18] (fun l0 => ∃ pre, l0 = pre ++ (Cel px (flow a b n) 32 :: l)) H ⟨[_, _], rfl⟩ (by kernel_rfl) (by kernel_rfl) ?_
                  iterate 16 (apply wpO_step; (· rfl); (· rfl); (· rfl); (· exact Nat.le_of_ble_eq_true rfl); (· rintro l0 ⟨pre, rfl⟩ w0 H0; (first | go_big_quiet_skip | ((with_reducible apply wpQ_loadCH); (· first | exact cell_party | exact cell_i64); (· rfl); (· rfl); (· ((refine List.mem_append_right _ ?_); (repeat (first | (with_reducible exact List.mem_cons_self) | with_reducible apply List.mem_cons_of_mem)))); (· (with_reducible first | exact flow_g0 .. | exact flow_g1 .. | exact flow_g2 ..)); (simp only [Act.put, List.setIfInBounds_toArray, List.set_cons_zero, List.set_cons_succ])) | go_big_quiet_step (fail)); (refine wpQuiet_nil ?_); (simp only [Array.getD_eq_getD_getElem?, List.getElem?_toArray, List.getElem?_cons_succ, List.getElem?_cons_zero, Option.getD_some]; rfl)); (simp only [Act.put, List.setIfInBounds_toArray, List.set_cons_zero, List.set_cons_succ]))
                  ((with_reducible apply wpO_storeB); (· exact cell_bool); (· rfl); (· rfl); (· rfl); (· rfl); (· rfl); (· (repeat (first | (with_reducible exact List.mem_cons_self) | with_reducible apply List.mem_cons_of_mem))); (· (rw [matB_sz]; omega)); (· exact matB_set _ a1 b1 _); (· (repeat (first | (with_reducible exact Repl.here) | with_reducible apply Repl.there))); (· exact ⟨[_, _], rfl⟩); (simp only [Act.put, List.setIfInBounds_toArray, List.set_cons_zero, List.set_cons_succ]))
                  (apply wpO_step; (· rfl); (· rfl); (· rfl); (· exact Nat.le_of_ble_eq_true rfl); (· rintro l0 ⟨pre, rfl⟩ w0 H0; (first | go_big_quiet_skip | fail | go_big_quiet_step (fail)); (refine wpQuiet_nil ?_); (simp only [Array.getD_eq_getD_getElem?, List.getElem?_toArray, List.getElem?_cons_succ, List.getElem?_cons_zero, Option.getD_some]; rfl)); (simp only [Act.put, List.setIfInBounds_toArray, List.set_cons_zero, List.set_cons_succ]))
                  ((with_reducible apply wpO_storeI); (· exact cell_i64); (· rfl); (· rfl); (· rfl); (· rfl); (· rfl); (· (repeat (first | (with_reducible exact List.mem_cons_self) | with_reducible apply List.mem_cons_of_mem))); (· (rw [gr_sz]; omega)); (· exact gr_set _ _ a1 b1 _); (· (repeat (first | (with_reducible exact Repl.here) | with_reducible apply Repl.there))); (· exact ⟨[_, _], rfl⟩); (simp only [Act.put, List.setIfInBounds_toArray, List.set_cons_zero, List.set_cons_succ]))
                  (refine wpO_nil ?_; clear H; intro _ H)
                  go_wp2_with fail
                  go_roundw
                  case rel => exact ⟨k + 1, _, _, by omega, by go_num, by rw [HG.out]; exact newS_yes (by simp [edgeB, E1.out, E2.out, E3.out, E6.out]; omega), H.drop (.there (.there .here))⟩
                  case measure => simp [intOf]; omega
                · have E6 := Lib.hid e6
                  clear e6
                  go_wp2_with fail
                  rw [HG.out, newS_no (by simp [edgeB, E6.out])]
                  go_ret2
                  exact NewPost.no H.tail.tail.tail
    · obtain rfl : k = en := by omega
      rw [List.drop_of_length_le (by rw [HL.out]; omega)] at hG
      have HG := Lib.hid hG
      clear hG
      go_wp2_with fail
      rw [HG.out]
      go_ret2
      exact NewPost.yes p H.tail
end
end Go.Proofs.Ytgobnamhdkbbeaa

/- graphs.Graph: Edges. -/
namespace Go.Proofs.Ytgobnamhdkbbeaa
open Go.RowKit
set_option linter.unusedSimpArgs false
set_option linter.unusedVariables false
theorem slF : SlTy Try.prog 24 32 3 16 (.agg (flow 0 0 0)) := slTy_mk Try.underlying24 (by kernel_rfl) rfl (by decide)
theorem bs_flow : Try.prog.underlying 24 = some (.slice 32) ∧ (Try.prog.info? 32).map (fun i => (i.size, i.zero.map Value.cells)) = some ((flow 0 0 0).size, some (flow 0 0 0)) ∧ 0 < (flow 0 0 0).size ∧ (flow 0 0 0).size ≤ 65536 := ⟨Try.underlying24, by kernel_rfl, by decide, by decide⟩
section
variable {ops : Array Oper} {rest : List Oper} {a : Act} {w : World} {Q : Exit → Act → World → Prop} {dst : Option Tmp} {ty : TypeId} {pos : String} {after : Array Edge} {guard : Option (Nat × Bool)} {p q : Operand}
theorem wpl_indexMat {c : Caps} {i : Nat} (hw : Region.wanted ⟨dst, .index 97 p q, ty, pos, after, guard⟩ (yielded ops a.tmps) = true) (hp : a.eval p = .agg (mat c)) (hq : a.eval q = .int .i64 (i : Int)) (hi : i < 17)
    (h : wpList Try.prog ops Q rest (a.put dst (.agg (row17 (c i)))) w) : wpList Try.prog ops Q (⟨dst, .index 97 p q, ty, pos, after, guard⟩ :: rest) a w := by
  refine wpl_pure hw _ (fun w => ?_) h
  have hu := Try.underlying97
  have hs : (sizeOf 95).run Try.prog w = .ok 17 w := by kernel_rfl
  have hp17 := part_row c i hi w
  unfold execOp
  simp only [hp, hq]
  simp [Instr.index, asIntOf, run_underlying hu, Sem.run_bind, hs, hi, hp17]
theorem wpl_indexRow {r : Nat → Int} {i : Nat} (hw : Region.wanted ⟨dst, .index 95 p q, ty, pos, after, guard⟩ (yielded ops a.tmps) = true) (hp : a.eval p = .agg (row17 r)) (hq : a.eval q = .int .i64 (i : Int)) (hi : i < 17)
    (h : wpList Try.prog ops Q rest (a.put dst (.int .i64 (r i))) w) : wpList Try.prog ops Q (⟨dst, .index 95 p q, ty, pos, after, guard⟩ :: rest) a w := by
  refine wpl_pure hw _ (fun w => ?_) h
  have hu := Try.underlying95
  have hs : (sizeOf 2).run Try.prog w = .ok 1 w := by kernel_rfl
  have hp17 := part_cell r i hi w
  rw [Nat.mul_one] at hp17
  unfold execOp
  simp only [hp, hq]
  simp [Instr.index, asIntOf, run_underlying hu, Sem.run_bind, hs, hi, hp17]
end
theorem row17_all (r : Nat → Int) : (row17 r).extract 0 (0 + 17) = row17 r := by
  have := row17_sz r
  simp [← this]
theorem row17_cells (r : Nat → Int) : Cells 17 (row17 r) := tab_cells fun i _ => rfl
theorem row17_splice (r s : Nat → Int) : splice (row17 r) 0 (row17 s) = row17 s := splice_all (by rw [row17_sz, row17_sz])
/-- The edges of a row, of the first ones of its places. -/
def rowE (c : Caps) (a : Nat) : Nat → List Flw
  | 0 => []
  | b + 1 => rowE c a b ++ if 0 < c a b then [⟨a, b, c a b⟩] else []
/-- All edges of the first rows, in order. -/
def matE (c : Caps) : Nat → List Flw
  | 0 => []
  | a + 1 => matE c a ++ rowE c a 17
def edgesOf (c : Caps) : List Flw := matE c 17
theorem rowE_len (c : Caps) (a : Nat) : ∀ b, (rowE c a b).length ≤ b
  | 0 => by simp [rowE]
  | b + 1 => by have := rowE_len c a b; simp only [rowE, List.length_append]; split <;> simp <;> omega
theorem matE_len (c : Caps) : ∀ a, (matE c a).length ≤ a * 17
  | 0 => by simp [matE]
  | a + 1 => by have := matE_len c a; have := rowE_len c a 17; simp only [matE, List.length_append]; omega
theorem flwL_app (F G : List Flw) : flwL (F ++ G) = flwL F ++ flwL G := by simp [flwL]
theorem flowC_one (f t n : Int) : OneCells (flow f t n).toList := by
  intro u hu
  simp [flow] at hu
  rcases hu with rfl | rfl | rfl <;> rfl
section
variable {W w : World} {l : List Thing} {p q : Nat} {c d : Caps} {m : Bool} {R : Ending → World → Prop}
set_option maxRecDepth 100000
set_option maxHeartbeats 1000000
theorem edges_nil : Ans 50 #[.pointer none] (.slice none 0 0) := by
  intro w
  have h := there_nil
  go_enter Try.func50, Try.ntmps50
  go_wp2_with (first | go_skip | ((with_reducible refine Ans.call (by assumption) ?_); intro _))
  go_ret
  exact ⟨rfl, (by repeat (first | exact Ext.refl _ | refine Ext.alloc ?_ _ | refine Ext.ext ?_ _ | refine Ext.drew ?_))⟩
theorem edges_zero (h : Cel p (gr c false) 99 ∈ l) : AnsH W l 50 #[.pointer (some ⟨p, 0, none⟩)] (.slice none 0 0) := by
  intro w H
  go_enter Try.func50, Try.ntmps50
  go_wp2_with (first | go_skip | ((with_reducible apply there_call H); (· exact h); (clear H; intro _ H)))
  go_ret
  exact ⟨rfl, H⟩
theorem clipF_nil : Ans 89 #[.slice none 0 0] (.slice none 0 0) := by
  intro w
  go_enter Try.func89, Try.ntmps89
  go_wp2
  go_ret
  exact ⟨rfl, (by repeat (first | exact Ext.refl _ | refine Ext.alloc ?_ _ | refine Ext.ext ?_ _ | refine Ext.drew ?_))⟩
theorem clipF (a : Addr) (n c : Nat) (hn : n ≤ c) (hc : c ≤ maxLen) : Ans 89 #[.slice (some a) n c] (.slice (some a) n n) := by
  intro w
  unfold maxLen at hc
  have ha : a.add 0 = a := by simp [Addr.add]
  go_enter Try.func89, Try.ntmps89
  go_wp2
  go_ret
  exact ⟨rfl, (by repeat (first | exact Ext.refl _ | refine Ext.alloc ?_ _ | refine Ext.ext ?_ _ | refine Ext.drew ?_))⟩
theorem edges_H (H : Heap W l w) (h : Gr p c ∈ l) : Calls Try.prog 50 #[.pointer (some ⟨p, 0, none⟩)] w (ListPost W l 32 3 (flwL (edgesOf c)) (edgesOf c).length) := by
  go_enter Try.func50, Try.ntmps50
  go_wp2_with (first
    | go_skip
    | ((with_reducible apply there_call H); (· exact h); (clear H; intro _ H))
    | ((with_reducible show wpList _ _ _ (_ :: _) _ _); (with_reducible apply wpl_loadRH row_mat); (· rfl); (· rfl); (· exact H); (· exact h); (· (simp only [gr_sz, Nat.reduceAdd, Nat.reduceLeDiff]; done)); (· exact gr_caps _ _); (simp only [Act.put, List.setIfInBounds_toArray, List.set_cons_zero, List.set_cons_succ])))
  have H0 := H.nilRow 32 3
  clear H
  go_loopw [2, 14] (fun v i wr => ∃ k : Nat, k ≤ 17 ∧ i = .int .i64 k ∧ ((matE c k).length = 0 → v = .slice none 0 0) ∧ Heap W (RowT 32 3 v (matE c k).length (flwL (matE c k)) :: l) wr) (fun _ i _ => 17 - (intOf i).toNat)
  case atStart => exact ⟨0, by omega, rfl, fun _ => rfl, H0⟩
  case round =>
    obtain ⟨k, hk, rfl, hz, H'⟩ := hrel
    have HZ := Lib.hid hz
    clear H0 hz
    have H := H'
    clear H'
    by_cases hlt : k < 17
    · go_wp2_with (first
        | go_skip
        | ((with_reducible show wpList _ _ _ (_ :: _) _ _); (with_reducible apply wpl_indexMat); (· rfl); (· rfl); (· rfl); (· exact hlt); (simp only [Act.put, List.setIfInBounds_toArray, List.set_cons_zero, List.set_cons_succ]))
        | ((with_reducible show wpList _ _ _ (_ :: _) _ _); (with_reducible apply wpl_allocRH row_17); (· rfl); (· exact H); (clear H; intro pr _ H); (simp only [Act.put, List.setIfInBounds_toArray, List.set_cons_zero, List.set_cons_succ]))
        | ((with_reducible show wpList _ _ _ (_ :: _) _ _); (with_reducible apply wpl_storeRH row_17); (· rfl); (· rfl); (· rfl); (· with_reducible exact row17_cells ..); (· exact H); (· (repeat (first | (with_reducible exact List.mem_cons_self) | with_reducible apply List.mem_cons_of_mem))); (· (simp only [row17_sz, Nat.reduceAdd, Nat.reduceLeDiff, Nat.le_refl]; done)); (· with_reducible exact row17_splice ..); (· (repeat (first | (with_reducible exact Repl.here) | with_reducible apply Repl.there))); (clear H; intro _ H); (simp only [Act.put, List.setIfInBounds_toArray, List.set_cons_zero, List.set_cons_succ]))
        | ((with_reducible show wpList _ _ _ (_ :: _) _ _); (with_reducible apply wpl_loadRH row_17); (· rfl); (· rfl); (· exact H); (· (repeat (first | (with_reducible exact List.mem_cons_self) | with_reducible apply List.mem_cons_of_mem))); (· (simp only [row17_sz, Nat.reduceAdd, Nat.reduceLeDiff, Nat.le_refl]; done)); (· with_reducible exact row17_all ..); (simp only [Act.put, List.setIfInBounds_toArray, List.set_cons_zero, List.set_cons_succ])))
      replace H := H.tail
      have H0 := H
      clear H
      rw [show matE c k = matE c k ++ rowE c k 0 by simp [rowE]] at H0
      go_loopw [2, 19] (fun v i wr => ∃ j : Nat, j ≤ 17 ∧ i = .int .i64 j ∧ ((matE c k ++ rowE c k j).length = 0 → v = .slice none 0 0) ∧ Heap W (RowT 32 3 v (matE c k ++ rowE c k j).length (flwL (matE c k ++ rowE c k j)) :: l) wr) (fun _ i _ => 17 - (intOf i).toNat)
      case atStart => exact ⟨0, by omega, rfl, fun h => HZ.out (by simpa [rowE] using h), H0⟩
      case round =>
        obtain ⟨j, hj, rfl, hz2, H'⟩ := hrel
        have HZ2 := Lib.hid hz2
        clear H0 hz2
        have H := H'
        clear H'
        by_cases hjt : j < 17
        · have hb : (matE c k ++ rowE c k j).length ≤ 289 := by have := matE_len c k; have := rowE_len c k j; simp only [List.length_append]; omega
          by_cases hpos : 0 < c k j
          · have hE : rowE c k (j + 1) = rowE c k j ++ [⟨k, j, c k j⟩] := by rw [rowE, if_pos hpos]
            have HE := Lib.hid hE
            clear hE
            have h1 : (matE c k ++ rowE c k j).length + 1 ≤ maxLen := by unfold maxLen; omega
            have h2 : ((matE c k ++ rowE c k j).length + 1) * 16 ≤ 140737488355328 := by omega
            go_wp2_with (first
              | go_skip
              | ((with_reducible show wpList _ _ _ (_ :: _) _ _); (with_reducible apply wpl_indexRow); (· rfl); (· rfl); (· rfl); (· exact hjt); (simp only [Act.put, List.setIfInBounds_toArray, List.set_cons_zero, List.set_cons_succ]))
              | ((with_reducible show wpList _ _ _ (_ :: _) _ _); (with_reducible apply wpl_bsRH); (· rfl); (· rfl); (· exact bs_flow); (· exact rfl); (· exact H); (clear H; intro pf _ H); (simp only [Act.put, List.setIfInBounds_toArray, List.set_cons_zero, List.set_cons_succ]))
              | ((with_reducible show wpList _ _ _ (_ :: _) _ _); (with_reducible apply wpl_appendH slF); (· rfl); (· rfl); (· rfl); (· rfl); (· exact H.perm (.swap _ _ _)); (· exact H.celRd List.mem_cons_self); (· rfl); (· exact flowC_one _ _ _); (· exact h1); (· exact h2); (clear H; intro v2 _ H); (simp only [Act.put, List.setIfInBounds_toArray, List.set_cons_zero, List.set_cons_succ])))
            go_roundw
            case rel =>
              refine ⟨j + 1, by omega, by go_num, ?_⟩
              have e1 : matE c k ++ rowE c k (j + 1) = (matE c k ++ rowE c k j) ++ [⟨k, j, c k j⟩] := by rw [HE.out, List.append_assoc]
              rw [e1, flwL_app]
              rw [List.length_append]
              exact ⟨fun h => by simp at h, H.drop (.there .here)⟩
            case measure => simp [intOf]; omega
          · have hE : rowE c k (j + 1) = rowE c k j := by rw [rowE, if_neg hpos]; simp
            have HE := Lib.hid hE
            clear hE
            go_wp2_with (first
              | go_skip
              | ((with_reducible show wpList _ _ _ (_ :: _) _ _); (with_reducible apply wpl_indexRow); (· rfl); (· rfl); (· rfl); (· exact hjt); (simp only [Act.put, List.setIfInBounds_toArray, List.set_cons_zero, List.set_cons_succ])))
            go_roundw
            case rel => exact ⟨j + 1, by omega, by go_num, by rw [HE.out]; exact ⟨HZ2.out, H⟩⟩
            case measure => simp [intOf]; omega
        · obtain rfl : j = 17 := by omega
          go_wp2_with fail
          go_roundw
          case rel => exact ⟨k + 1, by omega, by go_num, HZ2.out, H⟩
          case measure => simp [intOf]; omega
    · obtain rfl : k = 17 := by omega
      have H2 := H
      rw [show matE c 17 = edgesOf c from rfl] at H2
      have hlen : (edgesOf c).length ≤ 289 := matE_len c 17
      clear H
      have H := H2
      clear H2
      have HZ3 := Lib.hid (show (edgesOf c).length = 0 → u2 = .slice none 0 0 from HZ.out)
      clear HZ
      generalize edgesOf c = E at *
      by_cases h0 : E.length = 0
      · obtain rfl := HZ3.out h0
        have hcl := clipF_nil
        have H0 := Lib.hid h0
        clear h0
        go_wp2_with ((with_reducible refine Ans.callH (by assumption) H ?_); clear H; intro _ H)
        go_ret
        exact ListPost.nil H0.out H.tail
      · obtain ⟨g, cc, rfl, hc, hm⟩ := RowT.sl (H.ok _ List.mem_cons_self) (by omega)
        have hcl := clipF ⟨g, 0, none⟩ E.length cc hc hm
        have hp : 0 < E.length := by omega
        have HP := Lib.hid hp
        clear hp h0
        generalize hn : E.length = n at *
        have HN := Lib.hid hn
        clear hn
        go_wp2_with ((with_reducible refine Ans.callH (by assumption) H ?_); clear H; intro _ H)
        go_ret
        exact ListPost.some HP.out g cc hc H
end
end Go.Proofs.Ytgobnamhdkbbeaa

/- Loud operations in a region that draws: a slice literal of one row, an append. -/
namespace Go.Proofs.Ytgobnamhdkbbeaa
open Go.RowKit
set_option linter.unusedVariables false
section
variable {W : World} {G : List Thing → Prop} {loud : List Nat} {K : List Thing → Act → Prop} {l r : List Thing} {a : Act} {lo : List Oper} {ks : List Nat} {k : Nat} {dst : Option Tmp} {ty : TypeId} {pos : String} {after : Array Edge}
theorem wpO_bsR {x : Operand} {t e : TypeId} {c zs : Array Value} (ho : lo[k]? = some ⟨dst, .buildSlice t 1 #[(0, x)], ty, pos, after, none⟩) (hk : loud.contains k = true) (hx : a.eval x = .agg c)
    (hT : Try.prog.underlying t = some (.slice e) ∧ (Try.prog.info? e).map (fun i => (i.size, i.zero.map Value.cells)) = some (zs.size, some zs) ∧ 0 < zs.size ∧ zs.size ≤ 65536) (hv : c.size = zs.size)
    (hG : ∀ p, G (Cel p c e :: l)) (h : ∀ p, wpO Try.prog lo.toArray W G loud K ks (Cel p c e :: l) (a.put dst (.slice (some ⟨p, 0, none⟩) 1 1))) : wpO Try.prog lo.toArray W G loud K (k :: ks) l a := by
  refine wpO_loud ho hk ⟨rfl, fun w H => ⟨_, _, _, .inl ?_, H.alloc c e, hG _, h _⟩⟩
  unfold execOp
  simp only [List.map_toArray, List.map_cons, List.map_nil, hx, Sem.run_bind, run_buildSlice1 hT.1 hT.2.1 hT.2.2.1 hT.2.2.2 (.agg c) hv, Result.andThen_ok, Sem.run_pure]
  rfl
theorem wpO_append {t e size bytes : Nat} {z : Value} (T : SlTy Try.prog t e size bytes z) {s x : Operand} (ho : lo[k]? = some ⟨dst, .call { callee := .builtin .append, args := #[s, x], argTypes := #[t, t] }, ty, pos, after, none⟩) (hk : loud.contains k = true)
    {v : Value} {b m c n : Nat} {xs news : List Value} {cc : Array Value} {te : TypeId} (hs : a.eval s = v) (hx : a.eval x = .slice (some ⟨b, 0, none⟩) m c) (pl : Pull l (RowT e size v n xs) r) (mb : Cel b cc te ∈ l) (hnews : cc.toList = news)
    (hl : news.length = m * size) (h1 : OneCells news) (h63 : n + m ≤ maxLen) (hbytes : (n + m) * bytes ≤ 140737488355328)
    (hG : ∀ v', G (RowT e size v' (n + m) (xs ++ news) :: r)) (h : ∀ v', wpO Try.prog lo.toArray W G loud K ks (RowT e size v' (n + m) (xs ++ news) :: r) (a.put dst v')) : wpO Try.prog lo.toArray W G loud K (k :: ks) l a := by
  refine wpO_loud ho hk ⟨rfl, fun w H => ?_⟩
  have H2 := H.pull pl
  have hown : w.ownsRow 0 e size v n xs := H2.ok _ List.mem_cons_self
  have hrd := H.celRd mb
  rw [hnews] at hrd
  obtain ⟨i, hi, hz, hsz, hb⟩ := T.inf
  have hnw := hrd.addr
  obtain ⟨v1, w1, hr1, hbl⟩ := run_append_block w T ty 0 v n xs hown ⟨b, 0, none⟩ m c news hl hnw h1 h63 hbytes
  obtain ⟨v', w', hr, h2, h3, h4⟩ := run_append_own (P := Try.prog) w 0 t ty e i z size bytes T.und hi hz hsz hb T.zc T.pos v n xs hown ⟨b, 0, none⟩ m c news hl hnw h1 h63 hbytes (Nat.zero_le _)
  rw [hr1] at hr
  simp only [Result.ok.injEq] at hr
  obtain ⟨rfl, rfl⟩ := hr
  refine ⟨_, v1, w1, .inl ?_, H2.head h3 h2 ?_, hG _, h _⟩
  · unfold execOp
    simp only [resolve, invoke, builtin, Sem.run_bind, Sem.run_pure, Result.andThen_ok, List.map_toArray, List.map_cons, List.map_nil, hs, hx, hr1]
  · rcases hbl with hbl | hbl
    · exact .inl hbl
    · refine .inr fun j hj => ?_
      have h5 := ownsRow_fp h2 j hj
      have hj' : v1.ownBlock = some j := hj
      rw [hbl] at hj'
      cases hj'
      exact ⟨Nat.le_refl _, h5.2⟩
end
end Go.Proofs.Ytgobnamhdkbbeaa

/- A region that draws its order, over a memory of things, with loud operations in one order: stores, makes, and calls that make or change things. A quiet operation must yield the same while some things stay ('base', a list that may grow behind a loud one): one walk in an order of one's own serves every order. -/
namespace Go.Proofs.Ytgobnamhdkbbeaa
open Go.RowKit
set_option linter.unusedVariables false
def Keeps (base l : List Thing) : Prop := ∀ t, t ∈ base → t ∈ l
section
variable {P : Program} {ops : Array Oper} {md : Region.Mode} {W : World}
def YieldsK (P : Program) (ops : Array Oper) (W : World) (base : List Thing) (o : Oper) (v : Value) (a : Act) : Prop := ∀ l, Keeps base l → ∀ (w : World) (H : Heap W l w), YieldsIn P ops (fun w' => ∃ d, w' = H.any d) o v a
theorem YieldsK.of_same {base : List Thing} {o : Oper} {v : Value} {a a' : Act} (hy : YieldsK P ops W base o v a) (he : execOp a'.eval o = execOp a.eval o)
    (hw : Region.wanted o (yielded ops a'.tmps) = Region.wanted o (yielded ops a.tmps)) : YieldsK P ops W base o v a' := fun l hl w H => (hy l hl w H).of_same he hw
theorem YieldsK.more {base base' : List Thing} {o : Oper} {v : Value} {a : Act} (hy : YieldsK P ops W base o v a) (h : Keeps base base') : YieldsK P ops W base' o v a := fun l hl w H => hy l (fun t ht => hl t (h t ht)) w H
def LoudK (P : Program) (ops : Array Oper) (W : World) (o : Oper) (l : List Thing) (a : Act) (k : List Thing → Value → Prop) : Prop :=
  Region.wanted o (yielded ops a.tmps) = true ∧ ∀ w, Heap W l w →
    (∃ l' u w', ((execOp a.eval o).run P w = .ok (.value u) w' ∨ ((execOp a.eval o).run P w = .ok .skip w' ∧ u = undef)) ∧ Heap W l' w' ∧ k l' u) ∨
    (∃ f args w0, (execOp a.eval o).run P w = .ok (.enter f args) w0 ∧ Calls P f args w0 fun e w' => ∃ l' u, e = .returned u ∧ Heap W l' w' ∧ k l' u)
theorem LoudK.mono {o : Oper} {l : List Thing} {a : Act} {k k' : List Thing → Value → Prop} (h : LoudK P ops W o l a k) (hk : ∀ l' u, k l' u → k' l' u) : LoudK P ops W o l a k' :=
  ⟨h.1, fun w H => by
    rcases h.2 w H with ⟨l', u, w', h1, h2, h3⟩ | ⟨f, args, w0, h1, h2⟩
    · exact .inl ⟨l', u, w', h1, h2, hk _ _ h3⟩
    · exact .inr ⟨f, args, w0, h1, h2.mono fun e w' ⟨l', u, h3, h4, h5⟩ => ⟨l', u, h3, h4, hk _ _ h5⟩⟩⟩
theorem LoudK.of_same {o : Oper} {l : List Thing} {a a' : Act} {k : List Thing → Value → Prop} (h : LoudK P ops W o l a k) (he : execOp a'.eval o = execOp a.eval o)
    (hw : Region.wanted o (yielded ops a'.tmps) = Region.wanted o (yielded ops a.tmps)) : LoudK P ops W o l a' k := ⟨by rw [hw]; exact h.1, fun w H => by rw [he]; exact h.2 w H⟩
def WholeK (P : Program) (md : Region.Mode) (ops : Array Oper) (W : World) (K : List Thing → Act → Prop) : Nat → List Thing → List Thing → Array Bool → Act → Prop
  | 0, base, l, listed, a => Region.ready md ops listed = [] ∧ K l a
  | f + 1, base, l, listed, a => Region.ready md ops listed ≠ [] ∧ ∀ i ∈ Region.ready md ops listed, ∃ o, ops[i]? = some o ∧
      ((∃ v, YieldsK P ops W base o v a ∧ WholeK P md ops W K f base l (listed.setIfInBounds i true) (a.put o.dst v)) ∨
       LoudK P ops W o l a fun l' u => ∃ base', Keeps base base' ∧ Keeps base' l' ∧ WholeK P md ops W K f base' l' (listed.setIfInBounds i true) (a.put o.dst u))
theorem WholeK.any {K : List Thing → Act → Prop} {Q : Exit → Act → World → Prop} (hK : ∀ l a w, Heap W l w → K l a → Q .normal a w) :
    ∀ (f : Nat) (base l : List Thing) (listed : Array Bool) (a : Act) (w : World), Keeps base l → Heap W l w → WholeK P md ops W K f base l listed a → wpAny P md ops Q f listed a w := by
  intro f
  induction f with
  | zero => intro base l listed a w _ H h; exact ⟨h.1, hK _ _ _ H h.2⟩
  | succ f ih =>
    intro base l listed a w hG H h
    refine ⟨fun h0 => absurd h0 h.1, fun i hi => ?_⟩
    obtain ⟨o, ho, h⟩ := h.2 i hi
    rcases h with ⟨v, hy, h⟩ | h
    · refine wpOp_of_qOp (C := fun w' => ∃ d, w' = H.any d) (H.any_of H) (fun a' w' hw' ha' => ?_) ((hy l hG w H).qOp ho (K := fun a' => a' = a.put o.dst v) rfl)
      obtain ⟨d, rfl⟩ := hw'
      subst ha'
      exact ih _ _ _ _ _ hG (H.any_heap d) h
    · unfold wpOp
      simp only [ho]
      rw [if_pos h.1]
      refine .inl ?_
      unfold Oper.wp
      rcases h.2 w H with ⟨l', u, w', hr, H', base', h1, h2, hk⟩ | ⟨g, args, w0, hr, hc⟩
      · rcases hr with hr | ⟨hr, rfl⟩ <;> rw [hr] <;> exact ih _ _ _ _ _ h2 H' hk
      · rw [hr, Oper.upon_enter]
        refine hc.mono ?_
        rintro e w' ⟨l', u, rfl, H', base', h1, h2, hk⟩
        exact ih _ _ _ _ _ h2 H' hk
theorem WholeK.first {i : Nat} {oi : Oper} {v : Value} {K : List Thing → Act → Prop} (hi : ops[i]? = some oi) (hsel : ∀ (j : Nat) (o : Oper) cs b, ops[j]? = some o → o.op ≠ .select cs b) :
    ∀ (f : Nat) (base l : List Thing) (listed : Array Bool) (a : Act),
      (∀ j oj, ops[j]? = some oj → j ≠ i → listed.getD j true = false → (∀ e ∈ oj.after, Region.binds md e = true → e.on ≠ i) → oi.apart ops oj = true) →
      i ∈ Region.ready md ops listed → YieldsK P ops W base oi v a → WholeK P md ops W K f base l (listed.setIfInBounds i true) (a.put oi.dst v) → WholeK P md ops W K (f + 1) base l listed a := by
  intro f
  induction f with
  | zero =>
    intro base l listed a _ hr hy H
    refine ⟨fun h => by rw [h] at hr; simp at hr, fun j hj => ?_⟩
    by_cases e : j = i
    · subst e; exact ⟨oi, hi, .inl ⟨v, hy, H⟩⟩
    · have := ready_mono hj e
      rw [H.1] at this; cases this
  | succ f ih =>
    intro base l listed a hfree hr hy H
    have hun := (mem_ready.1 hr).1
    refine ⟨fun h => by rw [h] at hr; simp at hr, fun j hj => ?_⟩
    by_cases e : j = i
    · subst e; exact ⟨oi, hi, .inl ⟨v, hy, H⟩⟩
    · obtain ⟨hjun, oj, hoj, hall⟩ := mem_ready.1 hj
      have hnot : ∀ e ∈ oj.after, Region.binds md e = true → e.on ≠ i := fun e he hb heq => by
        have := hall e he hb
        rw [heq, getD_both hun] at this
        cases this
      obtain ⟨h1, h2, h3⟩ := Oper.apart_spec (hfree j oj hoj e hjun hnot)
      have hsi := fun cs b => hsel i oi cs b hi
      have hsj := fun cs b => hsel j oj cs b hoj
      have keep : ∀ u, YieldsK P ops W base oi v (a.put oj.dst u) := fun u => hy.of_same (execOp_put oi hsi a oj.dst u h3) (wanted_put oi a oj.dst u h3)
      have hfree' : ∀ k ok, ops[k]? = some ok → k ≠ i → (listed.setIfInBounds j true).getD k true = false →
          (∀ e ∈ ok.after, Region.binds md e = true → e.on ≠ i) → oi.apart ops ok = true := fun k ok hk hki hun hno => by
        refine hfree k ok hk hki ?_ hno
        by_cases hjk : j = k
        · subst hjk; exact hjun
        · rw [getD_set_ne true hjk] at hun; exact hun
      obtain ⟨o', ho', h⟩ := H.2 j (ready_mono hj e)
      obtain rfl : o' = oj := Option.some.inj (ho'.symm.trans hoj)
      refine ⟨o', hoj, ?_⟩
      rcases h with ⟨u, hu, h⟩ | h
      · refine .inl ⟨u, hu.of_same (execOp_put o' hsj a oi.dst v h1).symm (wanted_put o' a oi.dst v h1).symm, ih _ _ _ _ hfree' (ready_mono hr (Ne.symm e)) (keep _) ?_⟩
        rw [Array.setIfInBounds_comm _ _ e, ← Act.put_comm a v _ h2]
        exact h
      · refine .inr ((h.of_same (execOp_put o' hsj a oi.dst v h1).symm (wanted_put o' a oi.dst v h1).symm).mono fun l' u ⟨base', hb1, hb2, h⟩ => ⟨base', hb1, hb2, ih _ _ _ _ hfree' (ready_mono hr (Ne.symm e)) ((keep _).more hb1) ?_⟩)
        rw [Array.setIfInBounds_comm _ _ e, ← Act.put_comm a v _ h2]
        exact h
/-- The walk in an order of one's own. -/
def wpK (P : Program) (ops : Array Oper) (W : World) (loud : List Nat) (K : List Thing → Act → Prop) : List Nat → List Thing → List Thing → Act → Prop
  | [], base, l, a => K l a
  | k :: ks, base, l, a => ∃ o, ops[k]? = some o ∧ if loud.contains k then LoudK P ops W o l a fun l' u => ∃ base', Keeps base base' ∧ Keeps base' l' ∧ wpK P ops W loud K ks base' l' (a.put o.dst u)
      else ∃ v, YieldsK P ops W base o v a ∧ wpK P ops W loud K ks base l (a.put o.dst v)
theorem WholeK.lexO {loud : List Nat} {K : List Thing → Act → Prop} (hsel : Region.noSelect ops = true) :
    ∀ (ks : List Nat) (base l : List Thing) (listed : Array Bool) (a : Act), Region.lexO md ops loud ks listed = true → wpK P ops W loud K ks base l a → WholeK P md ops W K ks.length base l listed a := by
  intro ks
  induction ks with
  | nil => intro base l listed a hB h; exact ⟨by simpa [Region.lexO] using hB, h⟩
  | cons k ks ih =>
    intro base l listed a hB h
    obtain ⟨o, h0, h⟩ := h
    rw [Region.lexO] at hB
    simp only [Bool.and_eq_true] at hB
    obtain ⟨hB, hB'⟩ := hB
    by_cases hk : loud.contains k = true
    · rw [if_pos hk] at h hB
      have hr : Region.ready md ops listed = [k] := by simpa using hB
      refine ⟨by rw [hr]; simp, fun i hi => ?_⟩
      rw [hr] at hi
      obtain rfl : i = k := by simpa using hi
      exact ⟨o, h0, .inr (h.mono fun l' u ⟨base', h1, h2, h⟩ => ⟨base', h1, h2, ih _ _ _ _ hB' h⟩)⟩
    · rw [if_neg hk] at h hB
      simp only [Bool.and_eq_true] at hB
      obtain ⟨v, hy, h⟩ := h
      exact WholeK.first h0 (Region.noSelect_spec hsel) ks.length base l listed a (Region.free_spec h0 hB.2) (by simpa using hB.1) hy (ih _ _ _ _ hB' h)
theorem wp_region_K {id : Nat} {Q : Exit → Act → World → Prop} {a : Act} {w : World} {l : List Thing} {lo : List Oper} (loud ord : List Nat) (base : List Thing) (H : Heap W l w) (hG : Keeps base l) (hm : P.follows .mixedOrders = true) (hB : Region.lexOB lo.toArray loud ord = true)
    (h : wpK P lo.toArray W loud (fun l' a' => ∀ w', Heap W l' w' → Q .normal a' w') ord base l a) : (Code.region id lo.toArray true).wp P Q a w := by
  simp only [Region.lexOB, Bool.and_eq_true, beq_iff_eq] at hB
  refine wp_region_any hm ?_
  have := WholeK.lexO (md := .any) hB.1.1 ord base l _ a hB.1.2 h
  have h2 := WholeK.any (Q := Q) (fun l a w H h => h w H) ord.length base l _ a _ hG H.drew this
  rw [hB.2] at h2
  exact h2
theorem wp_region_K0 {id : Nat} {Q : Exit → Act → World → Prop} {a : Act} {w : World} {l : List Thing} {lo : List Oper} (loud ord : List Nat) (H : Heap W l w) (hm : P.follows .mixedOrders = true) (hB : Region.lexOB lo.toArray loud ord = true)
    (h : wpK P lo.toArray W loud (fun l' a' => ∀ w', Heap W l' w' → Q .normal a' w') ord l l a) : (Code.region id lo.toArray true).wp P Q a w :=
  wp_region_K loud ord l H (fun _ h => h) hm hB h
theorem wpK_nil {loud : List Nat} {K : List Thing → Act → Prop} {base l : List Thing} {a : Act} (h : K l a) : wpK P ops W loud K [] base l a := h
theorem wpK_step {lo : List Oper} {loud : List Nat} {K : List Thing → Act → Prop} {o : Oper} {k : Nat} {ks : List Nat} {base l : List Thing} {a : Act} {s : Nat} {v : Value} (ho : lo[k]? = some o) (hk : loud.contains k = false) (hd : o.dst = some s) (hlt : s < a.tmps.size)
    (h1 : ∀ l0, Keeps base l0 → ∀ (w0 : World) (H0 : Heap W l0 w0), wpQuiet P lo.toArray (fun w' => ∃ d, w' = H0.any d) (fun a' => a'.tmps.getD s undef = v) [o] a) (h2 : wpK P lo.toArray W loud K ks base l (a.put o.dst v)) : wpK P lo.toArray W loud K (k :: ks) base l a := by
  have inj : ∀ u, (a.put o.dst u).tmps.getD s undef = v → u = v := fun u h => by
    rw [hd] at h
    simp [Act.put, hlt] at h
    exact h
  refine ⟨o, by simpa using ho, ?_⟩
  rw [if_neg (by rw [hk]; exact Bool.false_ne_true)]
  refine ⟨v, fun l0 hl0 w0 H0 => ?_, h2⟩
  have h := h1 l0 hl0 w0 H0
  unfold wpQuiet at h
  by_cases hw : Region.wanted o (yielded lo.toArray a.tmps) = true
  · rw [if_pos hw] at h
    obtain ⟨u, hu, hk⟩ := h
    obtain rfl := inj u hk
    exact .inl ⟨hw, hu⟩
  · rw [if_neg hw] at h
    exact .inr ⟨by simpa using hw, (inj undef h).symm⟩
/-- A loud one whose guard says no. -/
theorem wpK_skip {lo : List Oper} {loud : List Nat} {K : List Thing → Act → Prop} {o : Oper} {k : Nat} {ks : List Nat} {base l : List Thing} {a : Act} (ho : lo[k]? = some o) (hk : loud.contains k = false) (hw : Region.wanted o (yielded lo.toArray a.tmps) = false) (h2 : wpK P lo.toArray W loud K ks base l (a.put o.dst undef)) : wpK P lo.toArray W loud K (k :: ks) base l a := by
  refine ⟨o, by simpa using ho, ?_⟩
  rw [if_neg (by rw [hk]; exact Bool.false_ne_true)]
  exact ⟨undef, fun _ _ _ _ => .inr ⟨hw, rfl⟩, h2⟩
theorem wpK_loud {lo : List Oper} {loud : List Nat} {K : List Thing → Act → Prop} {o : Oper} {k : Nat} {ks : List Nat} {base l : List Thing} {a : Act} (ho : lo[k]? = some o) (hk : loud.contains k = true) (h : LoudK P lo.toArray W o l a fun l' u => ∃ base', Keeps base base' ∧ Keeps base' l' ∧ wpK P lo.toArray W loud K ks base' l' (a.put o.dst u)) : wpK P lo.toArray W loud K (k :: ks) base l a := by
  refine ⟨o, by simpa using ho, ?_⟩
  rw [if_pos hk]
  exact h
/-- A call, by what it does: in the end 'base' may grow. -/
theorem wpK_call {lo : List Oper} {loud : List Nat} {K : List Thing → Act → Prop} {k : Nat} {ks : List Nat} {base l : List Thing} {a : Act} {dst : Option Tmp} {ty : TypeId} {pos : String} {after : Array Edge} {guard : Option (Nat × Bool)} {f : FuncId} {xs : Array Operand} {ats : Array TypeId} {argl : List Value}
    (ho : lo[k]? = some ⟨dst, .call { callee := .value (.func f), args := xs, argTypes := ats }, ty, pos, after, guard⟩) (hk : loud.contains k = true) (hw : Region.wanted ⟨dst, .call { callee := .value (.func f), args := xs, argTypes := ats }, ty, pos, after, guard⟩ (yielded lo.toArray a.tmps) = true)
    (hf : ∀ args w, (callFunc f args).run P w = .ok (.enter f args) w) (ha : xs.toList.map a.eval = argl)
    (hc : ∀ w, Heap W l w → Calls P f argl.toArray w fun e w' => ∃ l' u, e = .returned u ∧ Heap W l' w' ∧ ∃ base', Keeps base base' ∧ Keeps base' l' ∧ wpK P lo.toArray W loud K ks base' l' (a.put dst u)) : wpK P lo.toArray W loud K (k :: ks) base l a := by
  refine wpK_loud ho hk ⟨hw, fun w H => .inr ⟨f, argl.toArray, w, ?_, hc w H⟩⟩
  have e : #[] ++ xs.map a.eval ++ #[] = argl.toArray := by subst ha; apply Array.ext'; simp
  rw [execOp_call_go, e]
  exact hf _ w
theorem Keeps.refl (l : List Thing) : Keeps l l := fun _ h => h
theorem wpK_boxR {W : World} {lo : List Oper} {loud : List Nat} {K : List Thing → Act → Prop} {k : Nat} {ks : List Nat} {base l : List Thing} {a : Act} {T : TypeId} {dst : Option Tmp} {ty : TypeId} {pos : String} {after : Array Edge} {guard : Option (Nat × Bool)} {x : Operand} {c : Array Value}
    (ho : lo[k]? = some ⟨dst, .box T x, ty, pos, after, guard⟩) (hk : loud.contains k = true) (hw : Region.wanted ⟨dst, .box T x, ty, pos, after, guard⟩ (yielded lo.toArray a.tmps) = true) (hx : a.eval x = .agg c) (hb : Keeps base l)
    (h : ∀ p, wpK P lo.toArray W loud K ks base (Cel p c T :: l) (a.put dst (.pointer (some ⟨p, 0, none⟩)))) : wpK P lo.toArray W loud K (k :: ks) base l a := by
  refine wpK_loud ho hk ⟨hw, fun w H => .inl ⟨Cel w.heap.size c T :: l, .pointer (some ⟨w.heap.size, 0, none⟩), w.alloc (.cells c T), .inl ?_, H.alloc c T, base, Keeps.refl _, fun t ht => List.mem_cons_of_mem _ (hb t ht), h _⟩⟩
  unfold execOp
  simp only [hx, Instr.box, newVar, newRow, Value.cells]
  rfl
end
end Go.Proofs.Ytgobnamhdkbbeaa

/- Rows of one's own that begin anywhere in their block (a queue: s = s[1:], s = append(s, x)). -/
namespace Go.Proofs.Ytgobnamhdkbbeaa
open Go.RowKit
set_option linter.unusedSimpArgs false
set_option linter.unusedVariables false
/-- A row of a slice's value v, wherever in its block. -/
def OwnT (e size : Nat) (v : Value) (n : Nat) (xs : List Value) : Thing := ⟨v.ownBlock, fun w => Own w 0 e size v n xs, fun w w' h ho => ho.same h⟩
theorem RowT.own {w : World} {e size n : Nat} {v : Value} {xs : List Value} (h : (RowT e size v n xs).ok w) : (OwnT e size v n xs).ok w := Own.ofRow h
theorem Heap.slide {W w : World} {l : List Thing} {e size n : Nat} {v : Value} {xs : List Value} (H : Heap W (RowT e size v n xs :: l) w) : Heap W (OwnT e size v n xs :: l) w :=
  H.head (World.grownBy.refl _ _) (RowT.own (H.ok _ List.mem_cons_self)) (.inl rfl)
theorem Heap.ownRd {W w : World} {l : List Thing} {e size n c : Nat} {a : Option Addr} {xs : List Value} (H : Heap W l w) (m : OwnT e size (.slice a n c) n xs ∈ l) : Rd w a xs := by
  obtain ⟨ao, c', he, hr, _⟩ := Own.rd (H.ok _ m)
  simp only [Value.slice.injEq, true_and] at he
  obtain ⟨rfl, _⟩ := he
  exact hr
theorem OwnT.form {w : World} {e size n : Nat} {v : Value} {xs : List Value} (h : (OwnT e size v n xs).ok w) (hn : 0 < n) : ∃ g o c, v = .slice (some ⟨g, o, none⟩) n c ∧ n ≤ c ∧ c ≤ maxLen := by
  obtain ⟨_, ⟨_, rfl⟩ | ⟨g, off, cap, cur, rfl, _, _, h1, h2, _⟩⟩ := h
  · omega
  · exact ⟨g, off, cap, rfl, h1, h2⟩
/-- s[1:]. -/
theorem Own.tail {w : World} {base e size g off n c : Nat} {xs : List Value} (h : Own w base e size (.slice (some ⟨g, off, none⟩) n c) n xs) (hn : 1 ≤ n) :
    Own w base e size (.slice (cutA (some ⟨g, off, none⟩) c 1 size) (n - 1) (c - 1)) (n - 1) (xs.drop size) := by
  obtain ⟨hl, ⟨hv, _⟩ | ⟨g', off', cap, cur, hv, hb, hg, hnc, hcm, hs, ht⟩⟩ := h
  · cases hv
  · simp only [Value.slice.injEq, Option.some.injEq, Addr.mk.injEq, true_and] at hv
    obtain ⟨⟨rfl, rfl, _⟩, rfl⟩ := hv
    have hsz : n * size = size + (n - 1) * size := by
      obtain ⟨k, rfl⟩ : ∃ k, n = k + 1 := ⟨n - 1, by omega⟩
      rw [Nat.add_sub_cancel, Nat.add_mul]; omega
    refine ⟨by simp [hl]; omega, .inr ?_⟩
    by_cases hc : c = 1
    · subst hc
      obtain rfl : n = 1 := by omega
      refine ⟨g, off, 0, cur, by simp [cutA], hb, hg, by omega, by omega, by omega, ?_⟩
      simp only [Nat.sub_self, Nat.zero_mul, List.take_zero]
      rw [List.drop_of_length_le (by rw [hl]; omega)]
    · refine ⟨g, off + size, c - 1, cur, by simp [cutA, hc, addr_add], hb, hg, by omega, by omega, ?_, ?_⟩
      · have : c * size = size + (c - 1) * size := by
          obtain ⟨k, rfl⟩ : ∃ k, c = k + 1 := ⟨c - 1, by omega⟩
          rw [Nat.add_sub_cancel, Nat.add_mul]; omega
        omega
      · rw [← ht, hsz, List.drop_take, List.drop_drop, Nat.add_sub_cancel_left]
theorem Heap.ownTail {W w : World} {l : List Thing} {e size g off n c : Nat} {xs : List Value} (H : Heap W (OwnT e size (.slice (some ⟨g, off, none⟩) n c) n xs :: l) w) (hn : 1 ≤ n) :
    Heap W (OwnT e size (.slice (cutA (some ⟨g, off, none⟩) c 1 size) (n - 1) (c - 1)) (n - 1) (xs.drop size) :: l) w := by
  refine H.head (World.grownBy.refl _ _) (Own.tail (H.ok _ List.mem_cons_self) hn) (.inl ?_)
  unfold OwnT cutA
  simp only
  split
  · rfl
  · simp [Value.ownBlock, Addr.add]
    split <;> rfl
section
variable {P : Program}
theorem run_append_roomO (w : World) (t ty e : TypeId) (i : TypeInfo) (ht : P.underlying t = some (.slice e)) (hi : P.info? e = some i)
    (g off sLen sCap : Nat) (cur : Array Value) (hg : w.heap[g]? = some (.cells cur e (0, 0)))
    (a : Addr) (m c : Nat) (news : List Value) (hl : news.length = m * i.size) (hnews : ∀ j u, news[j]? = some u → w.cell? (a.add j) = some u) (h1 : ∀ u ∈ news, u.oneCell' = true)
    (hroom : sLen + m ≤ sCap) (hfit : off + sLen * i.size + news.length ≤ cur.size) :
    (Builtin.append_ #[t, t] ty #[.slice (some ⟨g, off, none⟩) sLen sCap, .slice (some a) m c]).run P w =
      .ok (.slice (some ⟨g, off, none⟩) (sLen + m) sCap) (w.setRow g (cur.toList.take (off + sLen * i.size) ++ news ++ cur.toList.drop (off + sLen * i.size + news.length)).toArray) := by
  have hf := run_firstCells_some (P := P) w i.size m a m c news hl hnews
  have hst := run_storeCells_at P g (off + sLen * i.size) e news 0 cur w hg (by simpa using hfit) h1
  simp only [Nat.add_zero] at hst
  have ha : (⟨g, off, none⟩ : Addr).add (sLen * i.size) = ⟨g, off + sLen * i.size, none⟩ := addr_add g off _
  simp [Builtin.append_, run_underlying ht, sizeOf, typeInfo, hi, Builtin.lenOf, hroom, hf, ha, hst]
end
section
variable {ops : Array Oper} {rest : List Oper} {o : Oper} {a : Act} {w W : World} {l : List Thing} {Q : Exit → Act → World → Prop}
/-- append(s, x...) to such a row. -/
theorem wpl_appendO {t e size bytes : Nat} {z : Value} (T : SlTy Try.prog t e size bytes z) (hgd : o.guard = none) {s x : Operand}
    (ho : o.op = .call { callee := .builtin .append, args := #[s, x], argTypes := #[t, t] }) {v : Value} (hs : a.eval s = v) {b off m c : Nat} (hx : a.eval x = .slice (some ⟨b, off, none⟩) m c)
    {n : Nat} {xs news : List Value} (H : Heap W (OwnT e size v n xs :: l) w) (hrd : Rd w (some ⟨b, off, none⟩) news) (hl : news.length = m * size) (h1 : OneCells news)
    (h63 : n + m ≤ maxLen) (hbytes : (n + m) * bytes ≤ 140737488355328)
    (h : ∀ v' w', Heap W (OwnT e size v' (n + m) (xs ++ news) :: l) w' → wpList Try.prog ops Q rest (a.put o.dst v') w') : wpList Try.prog ops Q (o :: rest) a w := by
  have hown := H.ok _ List.mem_cons_self
  obtain ⟨hxl, ⟨rfl, rfl⟩ | ⟨g, off', cap, cur, rfl, _, hg, hnc, hcm, hsz, htk⟩⟩ := hown
  · have hx0 : xs = [] := List.eq_nil_of_length_eq_zero (by simpa using hxl)
    subst hx0
    have H2 : Heap W (RowT e size (.slice none 0 0) 0 [] :: l) w := H.tail.nilRow e size
    exact wpl_appendH T hgd ho hs hx H2 hrd hl h1 h63 hbytes fun v' w' H' => h v' w' H'.slide
  · by_cases hroom : n + m ≤ cap
    · obtain ⟨i, hi, hz, hsi, hbi⟩ := T.inf
      subst hsi
      have hms : (n + m) * i.size ≤ cap * i.size := Nat.mul_le_mul_right _ hroom
      rw [Nat.add_mul] at hms
      have hfit : off' + n * i.size + news.length ≤ cur.size := by omega
      have hr := run_append_roomO (P := Try.prog) w t o.type e i T.und hi g off' n cap cur hg ⟨b, off, none⟩ m c news hl hrd.addr h1 hroom hfit
      refine wpList_plain hgd fun K hK => ?_
      unfold Oper.wp execOp
      simp only [ho, resolve, invoke, builtin, Sem.run_bind, Sem.run_pure, Result.andThen_ok, List.map_toArray, List.map_cons, List.map_nil, hs, hx, hr]
      have hxs : xs.length = n * i.size := hxl
      refine hK _ _ (h _ _ (H.head ⟨rfl, rfl, rfl, by simp, fun k _ hk => setRow_other w g k _ (fun e => hk (by show some k = some g; rw [e]))⟩ ⟨by rw [List.length_append, hxs, hl, Nat.add_mul], .inr ⟨g, off', cap, _, rfl, Nat.zero_le _, setRow_heap w g cur _ e _ hg, hroom, hcm, ?_, ?_⟩⟩ (.inl rfl)))
      · simp only [List.size_toArray, List.length_append, List.length_take, List.length_drop, Array.length_toList]
        omega
      · have hA : (cur.toList.take (off' + n * i.size)).length = off' + n * i.size := by simp; omega
        simp only [List.append_assoc]
        rw [List.drop_append_of_le_length (by rw [hA]; omega), List.drop_take, Nat.add_sub_cancel_left, htk, ← List.append_assoc, show (n + m) * i.size = (xs ++ news).length by rw [List.length_append, hxs, hl, Nat.add_mul]]
        exact List.take_left
    · obtain ⟨i, hi, hz, hsi, hbi⟩ := T.inf
      subst hsi
      subst hbi
      have hown' : Own w 0 e i.size (.slice (some ⟨g, off', none⟩) n cap) n xs := ⟨hxl, .inr ⟨g, off', cap, cur, rfl, Nat.zero_le _, hg, hnc, hcm, hsz, htk⟩⟩
      have hrd0 : Rd w (some ⟨g, off', none⟩) xs := by
        obtain ⟨ao, c', he, hr, _⟩ := Own.rd hown'
        simp only [Value.slice.injEq, true_and] at he
        obtain ⟨rfl, _⟩ := he
        exact hr
      have hr := run_append_grow (P := Try.prog) w t o.type e i z T.und hi hz ⟨g, off', none⟩ n cap xs hxl hrd0.addr ⟨b, off, none⟩ m c news hl hrd.addr (by omega) (by unfold maxLen at h63; omega) (growslice_fits (by omega) hbytes)
      have hge := grownCap_ge w (n + m) cap e
      have hcm2 : grownCap w (n + m) cap e ≤ maxLen := grownCap_le_maxLen w (n + m) cap e h63
      refine wpList_plain hgd fun K hK => ?_
      unfold Oper.wp execOp
      simp only [ho, resolve, invoke, builtin, Sem.run_bind, Sem.run_pure, Result.andThen_ok, List.map_toArray, List.map_cons, List.map_nil, hs, hx, hr]
      refine hK _ _ (h _ _ (H.head ⟨rfl, rfl, rfl, by simp, fun k hk _ => Below.heap_alloc w.drew _ k hk⟩ ⟨by rw [List.length_append, hxl, hl, Nat.add_mul], .inr ⟨w.heap.size, 0, _, _, rfl, Nat.zero_le _, heap_alloc_new w.drew _, hge, hcm2, ?_, ?_⟩⟩ (.inr fun k hk => ?_)))
      · simp only [Array.size_append, List.size_toArray, size_zeroCells, T.zc, hxl, hl, ← Nat.add_mul]
        rw [Nat.zero_add]
        have : n + m + (grownCap w (n + m) cap e - (n + m)) = grownCap w (n + m) cap e := by omega
        rw [this]
        exact Nat.le_refl _
      · simp only [Array.toList_append, List.append_assoc, List.drop_zero]
        rw [← List.append_assoc, show (n + m) * i.size = (xs ++ news).length by rw [List.length_append, hxl, hl, Nat.add_mul]]
        exact List.take_left
      · have hk' : some w.heap.size = some k := hk
        cases hk'
        exact ⟨Nat.le_refl _, by simp⟩
theorem wpl_loadCell {T : TypeId} {dst : Option Tmp} {ty : TypeId} {pos : String} {after : Array Edge} {guard : Option (Nat × Bool)} {x : Operand} {b off : Nat} (CT : CellTy T) (hw : Region.wanted ⟨dst, .load T x, ty, pos, after, guard⟩ (yielded ops a.tmps) = true) (hx : a.eval x = .pointer (some ⟨b, off, none⟩))
    {v : Value} (hc : w.cell? ⟨b, off, none⟩ = some v) (h : wpList Try.prog ops Q rest (a.put dst v) w) : wpList Try.prog ops Q (⟨dst, .load T x, ty, pos, after, guard⟩ :: rest) a w := by
  simp only [World.cell?, if_true] at hc
  cases hb : w.heap[b]? with
  | none => rw [hb] at hc; cases hc
  | some o =>
    rw [hb] at hc
    cases o <;> first | (cases hc; done) | skip
    rename_i cs t f
    exact wpl_loadC CT hw hx hb hc h
theorem wpl_cut1 {t e size bytes : Nat} {z : Value} (T : SlTy Try.prog t e size bytes z) {dst : Option Tmp} {ty : TypeId} {pos : String} {after : Array Edge} {guard : Option (Nat × Bool)} {x : Operand} (hw : Region.wanted ⟨dst, .slice t x (some (.const (.int .i64 1))) none none, ty, pos, after, guard⟩ (yielded ops a.tmps) = true)
    {ao : Option Addr} {n c : Nat} (hx : a.eval x = .slice ao n c) (hn : 1 ≤ n) (h : wpList Try.prog ops Q rest (a.put dst (.slice (cutA ao c 1 size) (n - 1) (c - 1))) w) : wpList Try.prog ops Q (⟨dst, .slice t x (some (.const (.int .i64 1))) none none, ty, pos, after, guard⟩ :: rest) a w := by
  refine wpl_pure hw _ (fun w => ?_) h
  have hr : (Instr.slice t (.slice ao n c) (some (.int .i64 1)) none none).run Try.prog w = .ok (.slice (cutA ao c 1 size) (n - 1) (c - 1)) w := run_cutFrom (P := Try.prog) T ao n c 1 .i64 hn w
  have hs : (Instr.sliceAt t (.slice ao n c) (some (.int .i64 1)) none none).run Try.prog w = .ok (.slice (cutA ao c 1 size) (n - 1) (c - 1)) w := by
    unfold Instr.sliceAt
    rw [Sem.run_bind, run_underlying T.und]
    simp only [Result.andThen_ok]
    exact hr
  have e : (some (Operand.const (.int .i64 1))).map a.eval = some (.int .i64 1) := rfl
  unfold execOp
  simp only [hx, e, Option.map_none, Sem.run_bind, hs, Result.andThen_ok, Sem.run_pure]
/-- A block as a row that is full. -/
theorem Heap.celOwn {W w : World} {l : List Thing} {g e size n : Nat} {c : Array Value} (H : Heap W (Cel g c e :: l) w) (hc : c.size = n * size) (hn : n ≤ maxLen) : Heap W (OwnT e size (.slice (some ⟨g, 0, none⟩) n n) n c.toList :: l) w :=
  H.head (World.grownBy.refl _ _) ⟨by simpa using hc, .inr ⟨g, 0, n, c, rfl, Nat.zero_le _, H.blk List.mem_cons_self, Nat.le_refl _, hn, by omega, by rw [List.drop_zero, List.take_of_length_le (by simp [hc])]⟩⟩ (.inl rfl)
/-- The head of a block as a row. -/
theorem Heap.celOwnP {W w : World} {l : List Thing} {g e size n m : Nat} {c : Array Value} (H : Heap W (Cel g c e :: l) w) (hc : m * size ≤ c.size) (hn : n ≤ m) (hm : m ≤ maxLen) : Heap W (OwnT e size (.slice (some ⟨g, 0, none⟩) n m) n (c.toList.take (n * size)) :: l) w := by
  have h2 : n * size ≤ m * size := Nat.mul_le_mul_right _ hn
  exact H.head (World.grownBy.refl _ _) ⟨by simp; omega, .inr ⟨g, 0, m, c, rfl, Nat.zero_le _, H.blk List.mem_cons_self, hn, hm, by omega, by rw [List.drop_zero]⟩⟩ (.inl rfl)
/-- make([]T, n, m). -/
theorem wpl_makeC {t e size bytes : Nat} {z : Value} (T : SlTy Try.prog t e size bytes z) {dst : Option Tmp} {ty : TypeId} {pos : String} {after : Array Edge} {guard : Option (Nat × Bool)} {x y : Operand} (hw : Region.wanted ⟨dst, .makeSlice t x y, ty, pos, after, guard⟩ (yielded ops a.tmps) = true)
    {kl kc : IntKind} {L C : Int} (n m : Nat) (hx : a.eval x = .int kl L) (hy : a.eval y = .int kc C) (hL : L = (n : Int)) (hC : C = (m : Int)) (hnm : n ≤ m) (hm : m ≤ 65536) (hb : bytes * m ≤ 281474976710656)
    (H : Heap W l w) (h : ∀ p w', Heap W (Cel p (madeCells z.cells (m * size)) e :: l) w' → wpList Try.prog ops Q rest (a.put dst (.slice (some ⟨p, 0, none⟩) n m)) w') : wpList Try.prog ops Q (⟨dst, .makeSlice t x y, ty, pos, after, guard⟩ :: rest) a w := by
  subst hL hC
  obtain ⟨i, hi, hz, hsi, hbi⟩ := T.inf
  subst hsi hbi
  have hb2 : (i.bytes : Int) * (m : Int) ≤ 281474976710656 := by rw [← Int.natCast_mul]; omega
  have hr := run_make (P := Try.prog) w t e i z T.und hi hz kl kc (n : Int) (m : Int) (by omega) (by omega) hb2 (by omega)
  simp only [Int.toNat_natCast] at hr
  refine BigFrame.wpList_want hw fun K hK => ?_
  unfold Oper.wp execOp
  simp only [hx, hy, Sem.run_bind, hr, Result.andThen_ok, Sem.run_pure]
  exact hK _ _ (h _ _ (H.alloc _ _))
end
end Go.Proofs.Ytgobnamhdkbbeaa
