/- countinghouseref01: Add, Sub, Mul. -/
import Derived.Test.YtfbipghjhngncaaRef01d
namespace Go.Proofs.Ytfbipghjhngncaa
open Go.RowKit
set_option linter.unusedSimpArgs false
set_option linter.unusedVariables false

theorem whole_of (a : Int) : wholeI (sgn a) a.natAbs = a := by
  unfold wholeI sgn
  by_cases h : a < 0
  · rw [decide_eq_true h]; simp; omega
  · rw [decide_eq_false h]; simp; omega
theorem tog_val (s : Bool) (x : Nat) (t : Bool) (y : Nat) : wholeI (togS s x t y) (togN s x t y) = wholeI s x + wholeI t y := by
  unfold togS togN wholeI
  by_cases h : x < y <;> cases s <;> cases t <;> simp [h] <;> omega
theorem tog_le (s : Bool) (x : Nat) (t : Bool) (y : Nat) : togN s x t y ≤ x + y := by
  unfold togN; split
  · exact Nat.le_refl _
  · split <;> omega
theorem not_val (s : Bool) (x : Nat) : wholeI (!s) x = -wholeI s x := by cases s <;> simp [wholeI]
theorem times_val (s : Bool) (x : Nat) (t : Bool) (y : Nat) : wholeI (s != t) (x * y) = wholeI s x * wholeI t y := by
  cases s <;> cases t <;> simp [wholeI, Int.neg_mul, Int.mul_neg]
theorem num_ans {s : Bool} {m : Nat} {z : Int} (hm : m < 2 ^ 192) (hz : wholeI s m = z) : Ans 47 #[.agg (wholeA s m)] (.tuple #[.int .i64 (num64 z), .int .i64 (err64 z)]) := by
  subst hz; exact num_any s m hm
def I64 (a : Int) : Prop := -9223372036854775808 ≤ a ∧ a ≤ 9223372036854775807
theorem I64.abs {a : Int} (h : I64 a) : a.natAbs ≤ 9223372036854775808 := by unfold I64 at h; omega
theorem lt192 {m : Nat} (h : m ≤ 2 ^ 140) : m < 2 ^ 192 := Nat.lt_of_le_of_lt h (by decide)
set_option maxRecDepth 100000 in
set_option maxHeartbeats 1000000 in
theorem radd_ans (a b : Int) (ha : I64 a) (hb : I64 b) : Ans 15 #[.int .i64 a, .int .i64 b] (.tuple #[.int .i64 (num64 (a + b)), .int .i64 (err64 (a + b))]) := by
  intro w
  have h1 := rof_whole a ha.1 ha.2
  have h2 := rof_whole b hb.1 hb.2
  have e1 := ha.abs
  have e2 := hb.abs
  have h3 := together_any (sgn a) (sgn b) a.natAbs b.natAbs (by omega) (by omega)
  have hle := tog_le (sgn a) a.natAbs (sgn b) b.natAbs
  have h4 := num_ans (s := togS (sgn a) a.natAbs (sgn b) b.natAbs) (m := togN (sgn a) a.natAbs (sgn b) b.natAbs) (z := a + b) (by omega) (by rw [tog_val, whole_of, whole_of])
  clear ha hb e1 e2 hle
  go_enter Try.func15, Try.ntmps15
  go_wp2_with ((with_reducible refine Ans.call (by assumption) ?_); intro _)
  go_ret2
  exact ⟨rfl, (by repeat (first | exact Ext.refl _ | refine Ext.alloc ?_ _ | refine Ext.ext ?_ _ | refine Ext.drew ?_))⟩
set_option maxRecDepth 100000 in
set_option maxHeartbeats 1000000 in
theorem rmul_ans (a b : Int) (ha : I64 a) (hb : I64 b) : Ans 20 #[.int .i64 a, .int .i64 b] (.tuple #[.int .i64 (num64 (a * b)), .int .i64 (err64 (a * b))]) := by
  intro w
  have h1 := rof_whole a ha.1 ha.2
  have h2 := rof_whole b hb.1 hb.2
  have e1 := ha.abs
  have e2 := hb.abs
  have h3 := times_any (sgn a) (sgn b) a.natAbs b.natAbs (by omega)
  have hle : a.natAbs * b.natAbs ≤ 2 ^ 140 := Nat.le_trans (Nat.mul_le_mul e1 e2) (by decide)
  have h4 := num_ans (s := (sgn a != sgn b)) (m := a.natAbs * b.natAbs) (z := a * b) (lt192 hle) (by rw [times_val, whole_of, whole_of])
  clear ha hb e1 e2 hle
  go_enter Try.func20, Try.ntmps20
  go_wp2_with ((with_reducible refine Ans.call (by assumption) ?_); intro _)
  go_ret2
  exact ⟨rfl, (by repeat (first | exact Ext.refl _ | refine Ext.alloc ?_ _ | refine Ext.ext ?_ _ | refine Ext.drew ?_))⟩
theorem wholeA_set0 (s t : Bool) (x : Nat) : (wholeA s x).setIfInBounds 0 (.bool t) = wholeA t x := by
  unfold wholeA
  apply Array.ext'
  simp
attribute [local go_sem high] bitsA_get wholeA_get wholeA_set0
set_option maxRecDepth 100000 in
set_option maxHeartbeats 1000000 in
theorem rsub_ans (a b : Int) (ha : I64 a) (hb : I64 b) : Ans 18 #[.int .i64 a, .int .i64 b] (.tuple #[.int .i64 (num64 (a - b)), .int .i64 (err64 (a - b))]) := by
  intro w
  have h1 := rof_whole a ha.1 ha.2
  have h2 := rof_whole b hb.1 hb.2
  have e1 := ha.abs
  have e2 := hb.abs
  have h3 := together_any (sgn a) (!sgn b) a.natAbs b.natAbs (by omega) (by omega)
  have hle := tog_le (sgn a) a.natAbs (!sgn b) b.natAbs
  have h4 := num_ans (s := togS (sgn a) a.natAbs (!sgn b) b.natAbs) (m := togN (sgn a) a.natAbs (!sgn b) b.natAbs) (z := a - b) (by omega) (by rw [tog_val, not_val, whole_of, whole_of]; omega)
  clear ha hb e1 e2 hle
  go_enter Try.func18, Try.ntmps18
  go_wp2_with (first | (first | ((with_reducible show wpList _ _ _ (_ :: _) _ _); (with_reducible apply wpl_build0); (· rfl); (· rfl); (simp only [Act.put, List.setIfInBounds_toArray, List.set_cons_zero, List.set_cons_succ])) | ((with_reducible show wpList _ _ _ (_ :: _) _ _); (with_reducible apply wpl_build2); (· rfl); (· rfl); (simp only [Act.put, List.setIfInBounds_toArray, List.set_cons_zero, List.set_cons_succ])) | ((with_reducible show wpList _ _ _ (_ :: _) _ _); (with_reducible apply wpl_build3); (· rfl); (simp only [Act.put, List.setIfInBounds_toArray, List.set_cons_zero, List.set_cons_succ])) | ((with_reducible show wpList _ _ _ (_ :: _) _ _); (with_reducible apply wpl_loadR row192); (· rfl); (· rfl); (· (repeat (first | ((with_reducible refine blk_here ?_); first | with_reducible rfl | (simp only [World.size_alloc, size_ext, World.size_drew]; done)) | with_reducible refine blk_past ?_ | with_reducible refine blk_extS ?_ | with_reducible refine blk_drewS ?_))); (· (first | (simp only [bitsA_size, wholeA_size, Nat.zero_add, Nat.reduceAdd, Nat.le_refl, Nat.reduceLeDiff]; done) | with_reducible rfl | (simp; done))); (· (with_reducible first | exact bitsA_ext0 _ | exact wholeA_ext0 _ _ | exact wholeA_ext1 _ _)); (simp only [Act.put, List.setIfInBounds_toArray, List.set_cons_zero, List.set_cons_succ])) | ((with_reducible show wpList _ _ _ (_ :: _) _ _); (with_reducible apply wpl_storeR row192); (· rfl); (· rfl); (· rfl); (· with_reducible exact (bitsA_cells _)); (· (repeat (first | ((with_reducible refine blk_here ?_); first | with_reducible rfl | (simp only [World.size_alloc, size_ext, World.size_drew]; done)) | with_reducible refine blk_past ?_ | with_reducible refine blk_extS ?_ | with_reducible refine blk_drewS ?_))); (· (first | (simp only [bitsA_size, wholeA_size, Nat.zero_add, Nat.reduceAdd, Nat.le_refl, Nat.reduceLeDiff]; done) | with_reducible rfl | (simp; done))); (· (with_reducible first | exact bitsA_splice _ _ | exact wholeA_splice0 _ _ _ _ | exact wholeA_splice1 _ _ _)); (· (repeat (first | ((with_reducible apply SetTo.here); first | with_reducible rfl | (simp only [World.size_alloc, size_ext, World.size_drew]; done)) | with_reducible apply SetTo.past | with_reducible apply SetTo.ext | with_reducible apply SetTo.drew))); (simp only [Act.put, List.setIfInBounds_toArray, List.set_cons_zero, List.set_cons_succ])) | ((with_reducible show wpList _ _ _ (_ :: _) _ _); (with_reducible apply wpl_allocR row192); (· rfl); (simp only [Act.put, List.setIfInBounds_toArray, List.set_cons_zero, List.set_cons_succ, World.size_alloc, size_ext, World.size_drew])) | ((with_reducible apply ret_rowR row192); (· rfl); (· rfl); (· rfl); (· (repeat (first | ((with_reducible refine blk_here ?_); first | with_reducible rfl | (simp only [World.size_alloc, size_ext, World.size_drew]; done)) | with_reducible refine blk_past ?_ | with_reducible refine blk_extS ?_ | with_reducible refine blk_drewS ?_))); (· (first | (simp only [bitsA_size, wholeA_size, Nat.zero_add, Nat.reduceAdd, Nat.le_refl, Nat.reduceLeDiff]; done) | with_reducible rfl | (simp; done))); (exact ⟨rfl, (by repeat (first | exact Ext.refl _ | refine Ext.alloc ?_ _ | refine Ext.ext ?_ _ | refine Ext.drew ?_))⟩)) | ((with_reducible show wpList _ _ _ (_ :: _) _ _); (with_reducible apply wpl_loadR row193); (· rfl); (· rfl); (· (repeat (first | ((with_reducible refine blk_here ?_); first | with_reducible rfl | (simp only [World.size_alloc, size_ext, World.size_drew]; done)) | with_reducible refine blk_past ?_ | with_reducible refine blk_extS ?_ | with_reducible refine blk_drewS ?_))); (· (first | (simp only [bitsA_size, wholeA_size, Nat.zero_add, Nat.reduceAdd, Nat.le_refl, Nat.reduceLeDiff]; done) | with_reducible rfl | (simp; done))); (· (with_reducible first | exact bitsA_ext0 _ | exact wholeA_ext0 _ _ | exact wholeA_ext1 _ _)); (simp only [Act.put, List.setIfInBounds_toArray, List.set_cons_zero, List.set_cons_succ])) | ((with_reducible show wpList _ _ _ (_ :: _) _ _); (with_reducible apply wpl_storeR row193); (· rfl); (· rfl); (· rfl); (· with_reducible exact (wholeA_cells _ _)); (· (repeat (first | ((with_reducible refine blk_here ?_); first | with_reducible rfl | (simp only [World.size_alloc, size_ext, World.size_drew]; done)) | with_reducible refine blk_past ?_ | with_reducible refine blk_extS ?_ | with_reducible refine blk_drewS ?_))); (· (first | (simp only [bitsA_size, wholeA_size, Nat.zero_add, Nat.reduceAdd, Nat.le_refl, Nat.reduceLeDiff]; done) | with_reducible rfl | (simp; done))); (· (with_reducible first | exact bitsA_splice _ _ | exact wholeA_splice0 _ _ _ _ | exact wholeA_splice1 _ _ _)); (· (repeat (first | ((with_reducible apply SetTo.here); first | with_reducible rfl | (simp only [World.size_alloc, size_ext, World.size_drew]; done)) | with_reducible apply SetTo.past | with_reducible apply SetTo.ext | with_reducible apply SetTo.drew))); (simp only [Act.put, List.setIfInBounds_toArray, List.set_cons_zero, List.set_cons_succ])) | ((with_reducible show wpList _ _ _ (_ :: _) _ _); (with_reducible apply wpl_allocR row193); (· rfl); (simp only [Act.put, List.setIfInBounds_toArray, List.set_cons_zero, List.set_cons_succ, World.size_alloc, size_ext, World.size_drew])) | ((with_reducible apply ret_rowR row193); (· rfl); (· rfl); (· rfl); (· (repeat (first | ((with_reducible refine blk_here ?_); first | with_reducible rfl | (simp only [World.size_alloc, size_ext, World.size_drew]; done)) | with_reducible refine blk_past ?_ | with_reducible refine blk_extS ?_ | with_reducible refine blk_drewS ?_))); (· (first | (simp only [bitsA_size, wholeA_size, Nat.zero_add, Nat.reduceAdd, Nat.le_refl, Nat.reduceLeDiff]; done) | with_reducible rfl | (simp; done))); (exact ⟨rfl, (by repeat (first | exact Ext.refl _ | refine Ext.alloc ?_ _ | refine Ext.ext ?_ _ | refine Ext.drew ?_))⟩))) | ((with_reducible refine Ans.call (by assumption) ?_); intro _))
  refine wp_region_ext (by kernel_rfl) (by kernel_rfl) ?_
  repeat (first | ((with_reducible apply wpQ_loadR row193); (· rfl); (· rfl); (· (repeat (first | ((with_reducible refine blk_here ?_); first | with_reducible rfl | (simp only [World.size_alloc, size_ext, World.size_drew]; done)) | with_reducible refine blk_past ?_ | with_reducible refine blk_extS ?_ | with_reducible refine blk_drewS ?_))); (· (first | (simp only [bitsA_size, wholeA_size, Nat.zero_add, Nat.reduceAdd, Nat.le_refl, Nat.reduceLeDiff]; done) | with_reducible rfl | (simp; done))); (· (with_reducible first | exact bitsA_ext0 _ | exact wholeA_ext0 _ _ | exact wholeA_ext1 _ _)); (simp only [Act.put, List.setIfInBounds_toArray, List.set_cons_zero, List.set_cons_succ])) | go_big_quiet_step ((with_reducible exact Ans.quiet (by assumption))))
  refine wpQuiet_nil ?_
  rintro _ ⟨_, rfl⟩
  go_wp2_with (first | (first | ((with_reducible show wpList _ _ _ (_ :: _) _ _); (with_reducible apply wpl_build0); (· rfl); (· rfl); (simp only [Act.put, List.setIfInBounds_toArray, List.set_cons_zero, List.set_cons_succ])) | ((with_reducible show wpList _ _ _ (_ :: _) _ _); (with_reducible apply wpl_build2); (· rfl); (· rfl); (simp only [Act.put, List.setIfInBounds_toArray, List.set_cons_zero, List.set_cons_succ])) | ((with_reducible show wpList _ _ _ (_ :: _) _ _); (with_reducible apply wpl_build3); (· rfl); (simp only [Act.put, List.setIfInBounds_toArray, List.set_cons_zero, List.set_cons_succ])) | ((with_reducible show wpList _ _ _ (_ :: _) _ _); (with_reducible apply wpl_loadR row192); (· rfl); (· rfl); (· (repeat (first | ((with_reducible refine blk_here ?_); first | with_reducible rfl | (simp only [World.size_alloc, size_ext, World.size_drew]; done)) | with_reducible refine blk_past ?_ | with_reducible refine blk_extS ?_ | with_reducible refine blk_drewS ?_))); (· (first | (simp only [bitsA_size, wholeA_size, Nat.zero_add, Nat.reduceAdd, Nat.le_refl, Nat.reduceLeDiff]; done) | with_reducible rfl | (simp; done))); (· (with_reducible first | exact bitsA_ext0 _ | exact wholeA_ext0 _ _ | exact wholeA_ext1 _ _)); (simp only [Act.put, List.setIfInBounds_toArray, List.set_cons_zero, List.set_cons_succ])) | ((with_reducible show wpList _ _ _ (_ :: _) _ _); (with_reducible apply wpl_storeR row192); (· rfl); (· rfl); (· rfl); (· with_reducible exact (bitsA_cells _)); (· (repeat (first | ((with_reducible refine blk_here ?_); first | with_reducible rfl | (simp only [World.size_alloc, size_ext, World.size_drew]; done)) | with_reducible refine blk_past ?_ | with_reducible refine blk_extS ?_ | with_reducible refine blk_drewS ?_))); (· (first | (simp only [bitsA_size, wholeA_size, Nat.zero_add, Nat.reduceAdd, Nat.le_refl, Nat.reduceLeDiff]; done) | with_reducible rfl | (simp; done))); (· (with_reducible first | exact bitsA_splice _ _ | exact wholeA_splice0 _ _ _ _ | exact wholeA_splice1 _ _ _)); (· (repeat (first | ((with_reducible apply SetTo.here); first | with_reducible rfl | (simp only [World.size_alloc, size_ext, World.size_drew]; done)) | with_reducible apply SetTo.past | with_reducible apply SetTo.ext | with_reducible apply SetTo.drew))); (simp only [Act.put, List.setIfInBounds_toArray, List.set_cons_zero, List.set_cons_succ])) | ((with_reducible show wpList _ _ _ (_ :: _) _ _); (with_reducible apply wpl_allocR row192); (· rfl); (simp only [Act.put, List.setIfInBounds_toArray, List.set_cons_zero, List.set_cons_succ, World.size_alloc, size_ext, World.size_drew])) | ((with_reducible apply ret_rowR row192); (· rfl); (· rfl); (· rfl); (· (repeat (first | ((with_reducible refine blk_here ?_); first | with_reducible rfl | (simp only [World.size_alloc, size_ext, World.size_drew]; done)) | with_reducible refine blk_past ?_ | with_reducible refine blk_extS ?_ | with_reducible refine blk_drewS ?_))); (· (first | (simp only [bitsA_size, wholeA_size, Nat.zero_add, Nat.reduceAdd, Nat.le_refl, Nat.reduceLeDiff]; done) | with_reducible rfl | (simp; done))); (exact ⟨rfl, (by repeat (first | exact Ext.refl _ | refine Ext.alloc ?_ _ | refine Ext.ext ?_ _ | refine Ext.drew ?_))⟩)) | ((with_reducible show wpList _ _ _ (_ :: _) _ _); (with_reducible apply wpl_loadR row193); (· rfl); (· rfl); (· (repeat (first | ((with_reducible refine blk_here ?_); first | with_reducible rfl | (simp only [World.size_alloc, size_ext, World.size_drew]; done)) | with_reducible refine blk_past ?_ | with_reducible refine blk_extS ?_ | with_reducible refine blk_drewS ?_))); (· (first | (simp only [bitsA_size, wholeA_size, Nat.zero_add, Nat.reduceAdd, Nat.le_refl, Nat.reduceLeDiff]; done) | with_reducible rfl | (simp; done))); (· (with_reducible first | exact bitsA_ext0 _ | exact wholeA_ext0 _ _ | exact wholeA_ext1 _ _)); (simp only [Act.put, List.setIfInBounds_toArray, List.set_cons_zero, List.set_cons_succ])) | ((with_reducible show wpList _ _ _ (_ :: _) _ _); (with_reducible apply wpl_storeR row193); (· rfl); (· rfl); (· rfl); (· with_reducible exact (wholeA_cells _ _)); (· (repeat (first | ((with_reducible refine blk_here ?_); first | with_reducible rfl | (simp only [World.size_alloc, size_ext, World.size_drew]; done)) | with_reducible refine blk_past ?_ | with_reducible refine blk_extS ?_ | with_reducible refine blk_drewS ?_))); (· (first | (simp only [bitsA_size, wholeA_size, Nat.zero_add, Nat.reduceAdd, Nat.le_refl, Nat.reduceLeDiff]; done) | with_reducible rfl | (simp; done))); (· (with_reducible first | exact bitsA_splice _ _ | exact wholeA_splice0 _ _ _ _ | exact wholeA_splice1 _ _ _)); (· (repeat (first | ((with_reducible apply SetTo.here); first | with_reducible rfl | (simp only [World.size_alloc, size_ext, World.size_drew]; done)) | with_reducible apply SetTo.past | with_reducible apply SetTo.ext | with_reducible apply SetTo.drew))); (simp only [Act.put, List.setIfInBounds_toArray, List.set_cons_zero, List.set_cons_succ])) | ((with_reducible show wpList _ _ _ (_ :: _) _ _); (with_reducible apply wpl_allocR row193); (· rfl); (simp only [Act.put, List.setIfInBounds_toArray, List.set_cons_zero, List.set_cons_succ, World.size_alloc, size_ext, World.size_drew])) | ((with_reducible apply ret_rowR row193); (· rfl); (· rfl); (· rfl); (· (repeat (first | ((with_reducible refine blk_here ?_); first | with_reducible rfl | (simp only [World.size_alloc, size_ext, World.size_drew]; done)) | with_reducible refine blk_past ?_ | with_reducible refine blk_extS ?_ | with_reducible refine blk_drewS ?_))); (· (first | (simp only [bitsA_size, wholeA_size, Nat.zero_add, Nat.reduceAdd, Nat.le_refl, Nat.reduceLeDiff]; done) | with_reducible rfl | (simp; done))); (exact ⟨rfl, (by repeat (first | exact Ext.refl _ | refine Ext.alloc ?_ _ | refine Ext.ext ?_ _ | refine Ext.drew ?_))⟩))) | ((with_reducible refine Ans.call (by assumption) ?_); intro _))
  go_ret2
  exact ⟨rfl, (by repeat (first | exact Ext.refl _ | refine Ext.alloc ?_ _ | refine Ext.ext ?_ _ | refine Ext.drew ?_))⟩
end Go.Proofs.Ytfbipghjhngncaa
