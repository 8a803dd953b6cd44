/- graphs.Graph: Push, Copy, all, Same. -/
import Derived.Test.YtgobnamhdkbbeaaGraph
namespace Go.Proofs.Ytgobnamhdkbbeaa
open Go.RowKit
set_option linter.unusedSimpArgs false
set_option linter.unusedVariables false
/-- Two arrays are the same where each part is. -/
theorem run_eq_arr (d : Nat) {T e n sz : Nat} {ca cb : Array Value} (hu : Try.prog.underlying T = some (.array n e)) (hs : ∀ w, (sizeOf e).run Try.prog w = .ok sz w) (va vb : Nat → Value) (eq : Nat → Bool) (w : World)
    (h1 : ∀ i, i < n → (part e ca (i * sz)).run Try.prog w = .ok (va i) w) (h2 : ∀ i, i < n → (part e cb (i * sz)).run Try.prog w = .ok (vb i) w) (h3 : ∀ i, i < n → (Op.equalIn (d + 1) e (va i) (vb i)).run Try.prog w = .ok (eq i) w) :
    (Op.equalIn (d + 2) T (.agg ca) (.agg cb)).run Try.prog w = .ok ((List.range' 0 n 1).all eq) w := by
  have key : ∀ l : List Nat, (∀ i ∈ l, i < n) → ∀ (a : Option Bool × Unit), a.1 = none →
      ((forIn l a fun i (r : Option Bool × Unit) => do
        let va ← part e ca (i * sz)
        let vb ← part e cb (i * sz)
        let e ← Op.equalIn (d + 1) e va vb
        if (!e) = true then pure (ForInStep.done (some false, ())) else pure (ForInStep.yield (none, ()))) : Sem (Option Bool × Unit)).run Try.prog w
      = .ok (if l.all eq then a else (some false, ())) w := by
    intro l
    induction l with
    | nil => intro _ a ha; simp
    | cons i l ih =>
      intro hl a ha
      have hi := hl i (by simp)
      obtain ⟨a1, ⟨⟩⟩ := a
      simp only at ha
      subst ha
      rw [List.forIn_cons]
      simp only [Sem.run_bind, h1 i hi, h2 i hi, h3 i hi, Result.andThen_ok]
      cases he : eq i
      · simp [he]
      · simp only [Bool.not_true, Bool.false_eq_true, if_false, Sem.run_pure, Result.andThen_ok, List.all_cons, he, Bool.true_and]
        exact ih (fun j hj => hl j (by simp [hj])) _ rfl
  rw [show d + 2 = (d + 1) + 1 from rfl, Op.equalIn]
  simp only [Sem.run_bind, run_underlying hu, Result.andThen_ok, hs, Std.Legacy.Range.forIn_eq_forIn_range']
  have h := key (List.range' 0 n 1) (fun i hi => by have := List.mem_range'.1 hi; omega) (none, ()) rfl
  rw [show [:n].size = n by simp [Std.Legacy.Range.size]]
  rw [h]
  cases (List.range' 0 n 1).all eq
  · simp
  · simp
/-- Are the capacities the same? -/
def matSame (c d : Caps) : Bool := (List.range' 0 17 1).all fun a => (List.range' 0 17 1).all fun b => c a b == d a b
theorem matSame_iff {c d : Caps} : matSame c d = true ↔ ∀ a b, a < 17 → b < 17 → c a b = d a b := by
  simp only [matSame, List.all_eq_true, List.mem_range', beq_iff_eq]
  constructor
  · intro h a b ha hb; exact h a ⟨a, ha, by omega⟩ b ⟨b, hb, by omega⟩
  · rintro h a ⟨i, hi, rfl⟩ b ⟨j, hj, rfl⟩; exact h _ _ (by omega) (by omega)
theorem part_row (c : Caps) (i : Nat) (hi : i < 17) (w : World) : (part 95 (mat c) (i * 17)).run Try.prog w = .ok (.agg (row17 (c i))) w := by
  have hu := Try.underlying95
  have hs : (sizeOf 95).run Try.prog w = .ok 17 w := by kernel_rfl
  have e : (mat c).extract (i * 17) (i * 17 + 17) = row17 (c i) := by
    unfold mat row17
    rw [tab_ext _ (by omega)]
    apply tab_congr
    intro j hj
    rw [(idx17 hj).1, (idx17 hj).2]
  simp [part, isAgg, run_underlying hu, Sem.run_bind, hs, e]
theorem part_cell (f : Nat → Int) (i : Nat) (hi : i < 17) (w : World) : (part 2 (row17 f) (i * 1)).run Try.prog w = .ok (.int .i64 (f i)) w := by
  have hu := Try.underlying2
  have e : (row17 f)[i]? = some (.int .i64 (f i)) := tab_get _ hi
  simp [part, isAgg, run_underlying hu, e]
theorem run_eq_row (d : Nat) (f g : Nat → Int) (w : World) : (Op.equalIn (d + 2) 95 (.agg (row17 f)) (.agg (row17 g))).run Try.prog w = .ok ((List.range' 0 17 1).all fun b => f b == g b) w :=
  run_eq_arr d Try.underlying95 (fun w => by kernel_rfl) (fun i => .int .i64 (f i)) (fun i => .int .i64 (g i)) _ w (fun i hi => part_cell f i hi w) (fun i hi => part_cell g i hi w) (fun i hi => run_equalIn_int w d _ .i64 .i64 _ _ Try.underlying2)
theorem run_eq_mat (d : Nat) (c e : Caps) (w : World) : (Op.equalIn (d + 3) 97 (.agg (mat c)) (.agg (mat e))).run Try.prog w = .ok (matSame c e) w :=
  run_eq_arr (d + 1) Try.underlying97 (fun w => by kernel_rfl) (fun i => .agg (row17 (c i))) (fun i => .agg (row17 (e i))) _ w (fun i hi => part_row c i hi w) (fun i hi => part_row e i hi w) (fun i hi => run_eq_row d _ _ w)
theorem run_eql_mat (c e : Caps) (w : World) : (binOp .eql 97 (.agg (mat c)) (.agg (mat e))).run Try.prog w = .ok (.bool (matSame c e)) w := by
  have h : (Op.equal 97 (.agg (mat c)) (.agg (mat e))).run Try.prog w = .ok (matSame c e) w := run_eq_mat 9997 c e w
  simp only [binOp]
  simp [Sem.run_bind, h]
section
variable {ops : Array Oper} {rest : List Oper} {a : Act} {w : World} {Q : Exit → Act → World → Prop} {dst : Option Tmp} {ty : TypeId} {pos : String} {after : Array Edge} {guard : Option (Nat × Bool)} {p q : Operand} {c e : Caps}
theorem wpl_eqlMat (hw : Region.wanted ⟨dst, .binOp .eql 97 p q 97, ty, pos, after, guard⟩ (yielded ops a.tmps) = true) (hp : a.eval p = .agg (mat c)) (hq : a.eval q = .agg (mat e))
    (h : wpList Try.prog ops Q rest (a.put dst (.bool (matSame c e))) w) : wpList Try.prog ops Q (⟨dst, .binOp .eql 97 p q 97, ty, pos, after, guard⟩ :: rest) a w := by
  refine wpl_pure hw _ (fun w => ?_) h
  have hg : (Try.prog.eqGuardType Try.prog.depth 97) = false := by kernel_rfl
  unfold execOp
  simp only [hp, hq, Sem.run_bind, run_eql_mat c e]
  simp [eqGuard, hg, run_eql_mat c e]
end
section
variable {W w : World} {l : List Thing} {p q : Nat} {c d : Caps} {m : Bool} {R : Ending → World → Prop}
set_option maxRecDepth 100000
set_option maxHeartbeats 1000000
abbrev zeroC : Caps := fun _ _ => 0
theorem all_nil : Ans 57 #[.pointer none] (.agg (mat zeroC)) := by
  intro w
  have h := there_nil
  have H := Heap.start w
  go_enter Try.func57, Try.ntmps57
  go_wp2_with (first | go_skip | ((with_reducible refine Ans.callH (by assumption) H ?_); clear H; intro _ H) | ((with_reducible show wpList _ _ _ (_ :: _) _ _); (with_reducible apply wpl_allocRH row_mat); (· rfl); (· exact H); (clear H; intro pz _ H); (simp only [Act.put, List.setIfInBounds_toArray, List.set_cons_zero, List.set_cons_succ])) | ((with_reducible show wpList _ _ _ (_ :: _) _ _); (with_reducible apply wpl_loadRH row_mat); (· rfl); (· rfl); (· exact H); (· (repeat (first | (with_reducible exact List.mem_cons_self) | with_reducible apply List.mem_cons_of_mem))); (· (simp only [mat_sz, Nat.reduceAdd, Nat.reduceLeDiff, Nat.le_refl]; done)); (· with_reducible exact mat_all ..); (simp only [Act.put, List.setIfInBounds_toArray, List.set_cons_zero, List.set_cons_succ])) | ((with_reducible show wpList _ _ _ (_ :: _) _ _); (with_reducible apply wpl_storeRH row_mat); (· rfl); (· rfl); (· rfl); (· with_reducible exact mat_cells ..); (· exact H); (· (repeat (first | (with_reducible exact List.mem_cons_self) | with_reducible apply List.mem_cons_of_mem))); (· (simp only [mat_sz, Nat.reduceAdd, Nat.reduceLeDiff, Nat.le_refl]; done)); (· with_reducible exact mat_splice ..); (· (repeat (first | (with_reducible exact Repl.here) | with_reducible apply Repl.there))); (clear H; intro _ H); (simp only [Act.put, List.setIfInBounds_toArray, List.set_cons_zero, List.set_cons_succ])))
  exact ret_row1H row_mat rfl rfl rfl H List.mem_cons_self (mat_sz _) ⟨rfl, H.low⟩
theorem all_H (h : Cel p (gr c m) 99 ∈ l) (hz : m = false → c = zeroC) : AnsH W l 57 #[.pointer (some ⟨p, 0, none⟩)] (.agg (mat c)) := by
  intro w H
  cases m
  · obtain rfl := hz rfl
    clear hz
    go_enter Try.func57, Try.ntmps57
    go_wp2_with (first | go_skip | ((with_reducible apply there_call H); (· with_reducible first | exact h | exact List.mem_cons_of_mem _ h); (clear H; intro _ H)) | ((with_reducible show wpList _ _ _ (_ :: _) _ _); (with_reducible apply wpl_allocRH row_mat); (· rfl); (· exact H); (clear H; intro pz _ H); (simp only [Act.put, List.setIfInBounds_toArray, List.set_cons_zero, List.set_cons_succ])) | ((with_reducible show wpList _ _ _ (_ :: _) _ _); (with_reducible apply wpl_loadRH row_mat); (· rfl); (· rfl); (· exact H); (· (repeat (first | (with_reducible exact List.mem_cons_self) | with_reducible apply List.mem_cons_of_mem))); (· (simp only [mat_sz, Nat.reduceAdd, Nat.reduceLeDiff, Nat.le_refl]; done)); (· with_reducible exact mat_all ..); (simp only [Act.put, List.setIfInBounds_toArray, List.set_cons_zero, List.set_cons_succ])) | ((with_reducible show wpList _ _ _ (_ :: _) _ _); (with_reducible apply wpl_storeRH row_mat); (· rfl); (· rfl); (· rfl); (· with_reducible exact mat_cells ..); (· exact H); (· (repeat (first | (with_reducible exact List.mem_cons_self) | with_reducible apply List.mem_cons_of_mem))); (· (simp only [mat_sz, Nat.reduceAdd, Nat.reduceLeDiff, Nat.le_refl]; done)); (· with_reducible exact mat_splice ..); (· (repeat (first | (with_reducible exact Repl.here) | with_reducible apply Repl.there))); (clear H; intro _ H); (simp only [Act.put, List.setIfInBounds_toArray, List.set_cons_zero, List.set_cons_succ])))
    exact ret_row1H row_mat rfl rfl rfl H List.mem_cons_self (mat_sz _) ⟨rfl, H.tail⟩
  · clear hz
    go_enter Try.func57, Try.ntmps57
    go_wp2_with (first
      | go_skip
      | ((with_reducible apply there_call H); (· with_reducible first | exact h | exact List.mem_cons_of_mem _ h); (clear H; intro _ H))
      | ((with_reducible show wpList _ _ _ (_ :: _) _ _); (with_reducible apply wpl_allocRH row_mat); (· rfl); (· exact H); (clear H; intro pz _ H); (simp only [Act.put, List.setIfInBounds_toArray, List.set_cons_zero, List.set_cons_succ]))
      | ((with_reducible show wpList _ _ _ (_ :: _) _ _); (with_reducible apply wpl_loadRH row_mat); (· rfl); (· rfl); (· exact H); (· exact List.mem_cons_of_mem _ h); (· (simp only [gr_sz, Nat.reduceAdd, Nat.reduceLeDiff]; done)); (· exact gr_caps _ _); (simp only [Act.put, List.setIfInBounds_toArray, List.set_cons_zero, List.set_cons_succ]))
      | ((with_reducible show wpList _ _ _ (_ :: _) _ _); (with_reducible apply wpl_loadRH row_mat); (· rfl); (· rfl); (· exact H); (· (repeat (first | (with_reducible exact List.mem_cons_self) | with_reducible apply List.mem_cons_of_mem))); (· (simp only [mat_sz, Nat.reduceAdd, Nat.reduceLeDiff, Nat.le_refl]; done)); (· with_reducible exact mat_all ..); (simp only [Act.put, List.setIfInBounds_toArray, List.set_cons_zero, List.set_cons_succ]))
      | ((with_reducible show wpList _ _ _ (_ :: _) _ _); (with_reducible apply wpl_storeRH row_mat); (· rfl); (· rfl); (· rfl); (· with_reducible exact mat_cells ..); (· exact H); (· (repeat (first | (with_reducible exact List.mem_cons_self) | with_reducible apply List.mem_cons_of_mem))); (· (simp only [mat_sz, Nat.reduceAdd, Nat.reduceLeDiff, Nat.le_refl]; done)); (· with_reducible exact mat_splice ..); (· (repeat (first | (with_reducible exact Repl.here) | with_reducible apply Repl.there))); (clear H; intro _ H); (simp only [Act.put, List.setIfInBounds_toArray, List.set_cons_zero, List.set_cons_succ])))
    exact ret_row1H row_mat rfl rfl rfl H List.mem_cons_self (mat_sz _) ⟨rfl, H.tail⟩
theorem same_ans (v1 v2 : Value) (h1 : AnsH W l 57 #[v1] (.agg (mat c))) (h2 : AnsH W l 57 #[v2] (.agg (mat d))) : AnsH W l 19 #[v1, v2] (.bool (matSame c d)) := by
  intro w H
  go_enter Try.func19, Try.ntmps19
  go_wp2_with (first | go_skip | ((with_reducible refine AnsH.call (by assumption) H ?_); clear H; intro _ H) | ((with_reducible show wpList _ _ _ (_ :: _) _ _); (with_reducible apply wpl_eqlMat); (· rfl); (· rfl); (· rfl); (simp only [Act.put, List.setIfInBounds_toArray, List.set_cons_zero, List.set_cons_succ])))
  go_ret
  exact ⟨rfl, H⟩
theorem copy_nil : Ans 20 #[.pointer none] (.pointer none) := by
  intro w
  have h := there_nil
  go_enter Try.func20, Try.ntmps20
  go_wp2_with (first | go_skip | ((with_reducible refine Ans.call (by assumption) ?_); intro _))
  go_ret
  exact ⟨rfl, (by repeat (first | exact Ext.refl _ | refine Ext.alloc ?_ _ | refine Ext.ext ?_ _ | refine Ext.drew ?_))⟩
theorem copy_zero (h : Cel p (gr c false) 99 ∈ l) : AnsH W l 20 #[.pointer (some ⟨p, 0, none⟩)] (.pointer none) := by
  intro w H
  go_enter Try.func20, Try.ntmps20
  go_wp2_with (first | go_skip | ((with_reducible apply there_call H); (· exact h); (clear H; intro _ H)))
  go_ret
  exact ⟨rfl, H⟩
theorem copy_H (H : Heap W l w) (h : Gr p c ∈ l) : Calls Try.prog 20 #[.pointer (some ⟨p, 0, none⟩)] w fun e w' => ∃ q, e = .returned (.pointer (some ⟨q, 0, none⟩)) ∧ Heap W (Gr q c :: l) w' := by
  go_enter Try.func20, Try.ntmps20
  go_wp2_with (first
    | go_skip
    | ((with_reducible apply there_call H); (· exact h); (clear H; intro _ H))
    | ((with_reducible show wpList _ _ _ (_ :: _) _ _); (with_reducible apply wpl_allocRH row_gr); (· rfl); (· exact H); (clear H; intro pz _ H); (simp only [Act.put, List.setIfInBounds_toArray, List.set_cons_zero, List.set_cons_succ]))
    | ((with_reducible show wpList _ _ _ (_ :: _) _ _); (with_reducible apply wpl_loadRH row_gr); (· rfl); (· rfl); (· exact H); (· exact h); (· (simp only [gr_sz, Nat.reduceAdd, Nat.reduceLeDiff, Nat.le_refl]; done)); (· exact gr_all _ _); (simp only [Act.put, List.setIfInBounds_toArray, List.set_cons_zero, List.set_cons_succ]))
    | ((with_reducible show wpList _ _ _ (_ :: _) _ _); (with_reducible apply wpl_storeRH row_gr); (· rfl); (· rfl); (· rfl); (· with_reducible exact gr_cells ..); (· exact H); (· (repeat (first | (with_reducible exact List.mem_cons_self) | with_reducible apply List.mem_cons_of_mem))); (· (simp only [gr_sz, Nat.reduceAdd, Nat.reduceLeDiff, Nat.le_refl]; done)); (· with_reducible exact gr_splice ..); (· (repeat (first | (with_reducible exact Repl.here) | with_reducible apply Repl.there))); (clear H; intro _ H); (simp only [Act.put, List.setIfInBounds_toArray, List.set_cons_zero, List.set_cons_succ])))
  go_ret
  exact ⟨pz, rfl, H⟩
theorem push_nil (a b : Nat) (n : Int) : Ans 17 #[.pointer none, .int .u8 (a : Int), .int .u8 (b : Int), .int .i64 n] (.int .i64 2) := by
  intro w
  have h := there_nil
  go_enter Try.func17, Try.ntmps17
  go_wp2_with (first | go_skip | ((with_reducible refine Ans.call (by assumption) ?_); intro _))
  go_ret
  exact ⟨rfl, (by repeat (first | exact Ext.refl _ | refine Ext.alloc ?_ _ | refine Ext.ext ?_ _ | refine Ext.drew ?_))⟩
theorem push_zero (a b : Nat) (n : Int) (h : Cel p (gr c false) 99 ∈ l) : AnsH W l 17 #[.pointer (some ⟨p, 0, none⟩), .int .u8 (a : Int), .int .u8 (b : Int), .int .i64 n] (.int .i64 2) := by
  intro w H
  go_enter Try.func17, Try.ntmps17
  go_wp2_with (first | go_skip | ((with_reducible apply there_call H); (· exact h); (clear H; intro _ H)))
  go_ret
  exact ⟨rfl, H⟩
/-- Behind a push: less one way, more the other. -/
def pushC (c : Caps) (a b : Nat) (n : Int) : Caps := upd2 (upd2 c a b (c a b - n)) b a (upd2 c a b (c a b - n) b a + n)
theorem push_arg (a b : Nat) (n : Int) (h : Gr p c ∈ l) (hn : n < 1) : AnsH W l 17 #[.pointer (some ⟨p, 0, none⟩), .int .u8 (a : Int), .int .u8 (b : Int), .int .i64 n] (.int .i64 1) := by
  intro w H
  go_enter Try.func17, Try.ntmps17
  go_wp2_with (first | go_skip | ((with_reducible apply there_call H); (· exact h); (clear H; intro _ H)))
  go_ret
  exact ⟨rfl, H⟩
theorem push_route (a b : Nat) (n : Int) (ha : a ≤ 255) (hb : b ≤ 255) (h : Gr p c ∈ l) (hn : 1 ≤ n) (hc : capOf c a b < n) : AnsH W l 17 #[.pointer (some ⟨p, 0, none⟩), .int .u8 (a : Int), .int .u8 (b : Int), .int .i64 n] (.int .i64 11) := by
  intro w H
  have hcap := cap_H (W := W) a b ha hb h
  go_enter Try.func17, Try.ntmps17
  go_wp2_with (first | go_skip | ((with_reducible apply there_call H); (· exact h); (clear H; intro _ H)) | ((with_reducible refine AnsH.call (by assumption) H ?_); clear H; intro _ H))
  go_ret
  exact ⟨rfl, H⟩
theorem push_ok (a b : Nat) (n : Int) (h1 : 1 ≤ a) (h2 : a ≤ 16) (h3 : 1 ≤ b) (h4 : b ≤ 16) (H : Heap W (Gr p c :: l) w) (hn : 1 ≤ n) (hc : n ≤ c a b) (hx : c a b ≤ 4611686018427387904) (hy : 0 ≤ upd2 c a b (c a b - n) b a) (hz : upd2 c a b (c a b - n) b a + n ≤ 9223372036854775807) :
    Calls Try.prog 17 #[.pointer (some ⟨p, 0, none⟩), .int .u8 (a : Int), .int .u8 (b : Int), .int .i64 n] w fun e w' => e = .returned (.int .i64 0) ∧ Heap W (Gr p (pushC c a b n) :: l) w' := by
  have hcap := cap_H (W := W) (l := Gr p c :: l) (p := p) (c := c) a b (by omega) (by omega) List.mem_cons_self
  rw [show capOf c a b = c a b by simp [capOf, mayP, h1, h2, h3, h4]] at hcap
  have a1 : a < 17 := by omega
  have b1 : b < 17 := by omega
  have hs1 : wrap64 (c a b - n) = c a b - n := IntWalk.wrap64_in _ ⟨by omega, by omega⟩
  have hs2 : wrap64 (upd2 c a b (c a b - n) b a + n) = upd2 c a b (c a b - n) b a + n := IntWalk.wrap64_in _ ⟨by omega, by omega⟩
  unfold pushC
  go_enter Try.func17, Try.ntmps17
  go_wp2_with (first | go_skip | ((with_reducible apply there_call H); (· exact List.mem_cons_self); (clear H; intro _ H)) | ((with_reducible refine AnsH.call (by assumption) H ?_); clear H; intro _ H))
  refine wp_region_H_tail 14 H (by kernel_rfl) (by kernel_rfl) ?_
  simp only [List.take_succ_cons, List.take_zero, List.drop_succ_cons, List.drop_zero]
  repeat (first | go_big_quiet_skip | ((with_reducible apply wpQ_loadCH); (· exact cell_i64); (· rfl); (· rfl); (· exact List.mem_cons_self); (· exact gr_get _ _ a1 b1); (simp only [Act.put, List.setIfInBounds_toArray, List.set_cons_zero, List.set_cons_succ])) | go_big_quiet_step (fail))
  refine wpQuiet_nil ?_
  clear H
  intro _ H
  try rw [hs1]
  go_wp2_with ((with_reducible show wpList _ _ _ (_ :: _) _ _); (with_reducible apply wpl_storeIH); (· exact cell_i64); (· rfl); (· rfl); (· rfl); (· exact H); (· (repeat (first | (with_reducible exact List.mem_cons_self) | with_reducible apply List.mem_cons_of_mem))); (· (rw [gr_sz]; omega)); (· exact gr_set _ _ a1 b1 _); (· (repeat (first | (with_reducible exact Repl.here) | with_reducible apply Repl.there))); (clear H; intro _ H); (simp only [Act.put, List.setIfInBounds_toArray, List.set_cons_zero, List.set_cons_succ]))
  refine wp_region_H_tail 14 H (by kernel_rfl) (by kernel_rfl) ?_
  simp only [List.take_succ_cons, List.take_zero, List.drop_succ_cons, List.drop_zero]
  repeat (first | go_big_quiet_skip | ((with_reducible apply wpQ_loadCH); (· exact cell_i64); (· rfl); (· rfl); (· exact List.mem_cons_self); (· exact gr_get _ _ b1 a1); (simp only [Act.put, List.setIfInBounds_toArray, List.set_cons_zero, List.set_cons_succ])) | go_big_quiet_step (fail))
  refine wpQuiet_nil ?_
  clear H
  intro _ H
  try rw [hs2]
  go_wp2_with ((with_reducible show wpList _ _ _ (_ :: _) _ _); (with_reducible apply wpl_storeIH); (· exact cell_i64); (· rfl); (· rfl); (· rfl); (· exact H); (· (repeat (first | (with_reducible exact List.mem_cons_self) | with_reducible apply List.mem_cons_of_mem))); (· (rw [gr_sz]; omega)); (· exact gr_set _ _ b1 a1 _); (· (repeat (first | (with_reducible exact Repl.here) | with_reducible apply Repl.there))); (clear H; intro _ H); (simp only [Act.put, List.setIfInBounds_toArray, List.set_cons_zero, List.set_cons_succ]))
  go_ret
  exact ⟨rfl, H⟩
end
end Go.Proofs.Ytgobnamhdkbbeaa
