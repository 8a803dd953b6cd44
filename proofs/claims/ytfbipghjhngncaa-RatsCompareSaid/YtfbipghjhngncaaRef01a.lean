/- countinghouseref01 over rows of 192 bits. -/
import Derived.Test.YtfbipghjhngncaaBit192
namespace Go.Proofs.Ytfbipghjhngncaa
open Go.RowKit
set_option linter.unusedSimpArgs false
set_option linter.unusedVariables false

theorem row192 : RowTy 57 192 (bitsA 0) := by
  refine ⟨⟨_, Try.underlying57, rfl⟩, by kernel_rfl, ?_⟩
  have h : bitsA 0 = Array.replicate 192 (.bool false) := by
    apply Array.ext_getElem?
    intro i
    rw [bitsA_get, Array.getElem?_replicate]
    simp
  rw [h]
  show (Try.prog.info? 57).bind (·.zero) = some (.agg (Array.replicate 192 (.bool false)))
  kernel_rfl
theorem row193 : RowTy 59 193 (wholeA false 0) := by
  refine ⟨⟨_, Try.underlying59, rfl⟩, by kernel_rfl, ?_⟩
  have h : wholeA false 0 = Array.replicate 193 (.bool false) := by
    apply Array.ext_getElem?
    intro i
    rw [wholeA_get, Array.getElem?_replicate]
    by_cases h0 : i = 0
    · subst h0; simp
    · rw [if_neg h0]
      by_cases h1 : i < 193
      · rw [if_pos (by omega), if_pos h1]; simp
      · rw [if_neg (by omega), if_neg h1]
  rw [h]
  show (Try.prog.info? 59).bind (·.zero) = some (.agg (Array.replicate 193 (.bool false)))
  kernel_rfl
theorem cellBool : CellTy 4 := ⟨⟨_, Try.underlying4, rfl⟩, by kernel_rfl⟩
attribute [local go_sem high] bitsA_get wholeA_get
theorem bit_of {x k : Nat} {b : Bool} (h : x.testBit k = b) : bit x k = b.toNat := by unfold bit; rw [h]
theorem plus_out {x y k c : Nat} {p q v : Bool} (hk : k < 192) (hc : carry x y k = c) (hp : x.testBit k = p) (hq : y.testBit k = q) (hv : v = decide ((c + p.toNat + q.toNat) % 2 = 1)) :
    (bitsA ((x + y) % 2 ^ k)).setIfInBounds k (.bool v) = bitsA ((x + y) % 2 ^ (k + 1)) := by
  rw [← bitsA_low hk, testBit_of_bit, bit_add, hc, bit_of hp, bit_of hq, hv]
theorem carry_next {x y k c : Nat} {p q : Bool} (hc : carry x y k = c) (hp : x.testBit k = p) (hq : y.testBit k = q) : carry x y (k + 1) = (c + p.toNat + q.toNat) / 2 := by
  rw [carry_succ, hc, bit_of hp, bit_of hq]
set_option maxRecDepth 100000 in
set_option maxHeartbeats 1000000 in
theorem rplus_any (x y : Nat) : Ans 62 #[.agg (bitsA x), .agg (bitsA y)] (.agg (bitsA (x + y))) := by
  intro w
  go_enter Try.func62, Try.ntmps62
  go_wp2_with ((with_reducible show wpList _ _ _ (_ :: _) _ _); (with_reducible apply wpl_allocR row192); (· rfl); (simp only [Act.put, List.setIfInBounds_toArray, List.set_cons_zero, List.set_cons_succ, World.size_alloc, size_ext, World.size_drew]))
  go_loopw [6, 7] (fun c i wr => ∃ k : Nat, k ≤ 192 ∧ i = .int .i64 k ∧ c = .int .i64 (carry x y k : Nat) ∧ wr = (((w.alloc (.cells (bitsA x) 57)).alloc (.cells (bitsA y) 57)).alloc (.cells (bitsA 0) 57)).alloc (.cells (bitsA ((x + y) % 2 ^ k)) 57)) (fun _ i _ => 192 - (intOf i).toNat)
  case atStart => exact ⟨0, by omega, rfl, by rw [carry_zero]; rfl, by rw [Nat.pow_zero, Nat.mod_one]⟩
  case round =>
    obtain ⟨k, hk, rfl, rfl, rfl⟩ := hrel
    have hc := carry_le x y k
    generalize hcc : carry x y k = c at *
    have HC := Lib.hid hcc
    clear hcc
    by_cases hlt : k < 192
    · cases hx : x.testBit k <;> cases hy : y.testBit k
      all_goals
        go_wp2_with fail
        go_roundw
        case rel =>
          refine ⟨k + 1, by omega, by go_num, ?_, ?_⟩
          · rw [carry_next HC.out hx hy]; simp
          · rw [plus_out hlt HC.out hx hy]
            rw [Bool.eq_iff_iff]; simp; omega
        case measure => simp [intOf]; omega
    · obtain rfl : k = 192 := by omega
      rw [bitsA_mod]
      go_wp2_with (first | ((with_reducible show wpList _ _ _ (_ :: _) _ _); (with_reducible apply wpl_loadR row192); (· rfl); (· rfl); (· (repeat (first | ((with_reducible refine blk_here ?_); first | with_reducible rfl | (simp only [World.size_alloc, size_ext, World.size_drew]; done)) | with_reducible refine blk_past ?_ | with_reducible refine blk_extS ?_ | with_reducible refine blk_drewS ?_))); (· (simp only [bitsA_size, wholeA_size, Nat.zero_add, Nat.reduceAdd, Nat.le_refl, Nat.reduceLeDiff])); (· (with_reducible first | exact bitsA_ext0 _ | exact wholeA_ext0 _ _ | exact wholeA_ext1 _ _)); (simp only [Act.put, List.setIfInBounds_toArray, List.set_cons_zero, List.set_cons_succ])) | ((with_reducible show wpList _ _ _ (_ :: _) _ _); (with_reducible apply wpl_storeR row192); (· rfl); (· rfl); (· rfl); (· with_reducible exact (bitsA_cells _)); (· (repeat (first | ((with_reducible refine blk_here ?_); first | with_reducible rfl | (simp only [World.size_alloc, size_ext, World.size_drew]; done)) | with_reducible refine blk_past ?_ | with_reducible refine blk_extS ?_ | with_reducible refine blk_drewS ?_))); (· (simp only [bitsA_size, wholeA_size, Nat.zero_add, Nat.reduceAdd, Nat.le_refl, Nat.reduceLeDiff])); (· (with_reducible first | exact bitsA_splice _ _ | exact wholeA_splice0 _ _ _ _ | exact wholeA_splice1 _ _ _)); (· (repeat (first | ((with_reducible apply SetTo.here); first | with_reducible rfl | (simp only [World.size_alloc, size_ext, World.size_drew]; done)) | with_reducible apply SetTo.past | with_reducible apply SetTo.ext | with_reducible apply SetTo.drew))); (simp only [Act.put, List.setIfInBounds_toArray, List.set_cons_zero, List.set_cons_succ])) | ((with_reducible show wpList _ _ _ (_ :: _) _ _); (with_reducible apply wpl_allocR row192); (· rfl); (simp only [Act.put, List.setIfInBounds_toArray, List.set_cons_zero, List.set_cons_succ, World.size_alloc, size_ext, World.size_drew])) | ((with_reducible apply ret_rowR row192); (· rfl); (· rfl); (· rfl); (· (repeat (first | ((with_reducible refine blk_here ?_); first | with_reducible rfl | (simp only [World.size_alloc, size_ext, World.size_drew]; done)) | with_reducible refine blk_past ?_ | with_reducible refine blk_extS ?_ | with_reducible refine blk_drewS ?_))); (· (simp only [bitsA_size, wholeA_size, Nat.zero_add, Nat.reduceAdd, Nat.le_refl, Nat.reduceLeDiff])); (exact ⟨rfl, (by repeat (first | exact Ext.refl _ | refine Ext.alloc ?_ _ | refine Ext.ext ?_ _ | refine Ext.drew ?_))⟩)))
theorem less_out {x y k c : Nat} {p q v : Bool} (hxy : y ≤ x) (hk : k < 192) (hc : owed x y k = c) (hp : x.testBit k = p) (hq : y.testBit k = q) (hv : v = decide ((p.toNat + q.toNat + c) % 2 = 1)) :
    (bitsA ((x - y) % 2 ^ k)).setIfInBounds k (.bool v) = bitsA ((x - y) % 2 ^ (k + 1)) := by
  rw [← bitsA_low hk, testBit_of_bit, bit_sub x y k hxy, hc, bit_of hp, bit_of hq, hv]
theorem owed_next {x y k c : Nat} {p q : Bool} (hc : owed x y k = c) (hp : x.testBit k = p) (hq : y.testBit k = q) : owed x y (k + 1) = if p.toNat < q.toNat + c then 1 else 0 := by
  rw [owed_succ, hc, bit_of hp, bit_of hq]
set_option maxRecDepth 100000 in
set_option maxHeartbeats 2000000 in
theorem less_any (x y : Nat) (hxy : y ≤ x) : Ans 63 #[.agg (bitsA x), .agg (bitsA y)] (.agg (bitsA (x - y))) := by
  intro w
  go_enter Try.func63, Try.ntmps63
  go_wp2_with ((with_reducible show wpList _ _ _ (_ :: _) _ _); (with_reducible apply wpl_allocR row192); (· rfl); (simp only [Act.put, List.setIfInBounds_toArray, List.set_cons_zero, List.set_cons_succ, World.size_alloc, size_ext, World.size_drew]))
  go_loopw [6, 7] (fun c i wr => ∃ k : Nat, k ≤ 192 ∧ i = .int .i64 k ∧ c = .int .i64 (owed x y k : Nat) ∧ wr = (((w.alloc (.cells (bitsA x) 57)).alloc (.cells (bitsA y) 57)).alloc (.cells (bitsA 0) 57)).alloc (.cells (bitsA ((x - y) % 2 ^ k)) 57)) (fun _ i _ => 192 - (intOf i).toNat)
  case atStart => exact ⟨0, by omega, rfl, by rw [owed_zero]; rfl, by rw [Nat.pow_zero, Nat.mod_one]⟩
  case round =>
    obtain ⟨k, hk, rfl, rfl, rfl⟩ := hrel
    have hc := owed_le x y k
    generalize hcc : owed x y k = c at *
    have HC := Lib.hid hcc
    clear hcc
    by_cases hlt : k < 192
    · rcases (show c = 0 ∨ c = 1 by omega) with rfl | rfl <;> cases hx : x.testBit k <;> cases hy : y.testBit k
      all_goals
        go_wp2_with fail
        go_roundw
        case rel =>
          refine ⟨k + 1, by omega, by go_num, ?_, ?_⟩
          · rw [owed_next HC.out hx hy]; simp
          · rw [less_out hxy hlt HC.out hx hy]
            simp
        case measure => simp [intOf]; omega
    · obtain rfl : k = 192 := by omega
      rw [bitsA_mod]
      go_wp2_with (first | ((with_reducible show wpList _ _ _ (_ :: _) _ _); (with_reducible apply wpl_loadR row192); (· rfl); (· rfl); (· (repeat (first | ((with_reducible refine blk_here ?_); first | with_reducible rfl | (simp only [World.size_alloc, size_ext, World.size_drew]; done)) | with_reducible refine blk_past ?_ | with_reducible refine blk_extS ?_ | with_reducible refine blk_drewS ?_))); (· (simp only [bitsA_size, wholeA_size, Nat.zero_add, Nat.reduceAdd, Nat.le_refl, Nat.reduceLeDiff])); (· (with_reducible first | exact bitsA_ext0 _ | exact wholeA_ext0 _ _ | exact wholeA_ext1 _ _)); (simp only [Act.put, List.setIfInBounds_toArray, List.set_cons_zero, List.set_cons_succ])) | ((with_reducible show wpList _ _ _ (_ :: _) _ _); (with_reducible apply wpl_storeR row192); (· rfl); (· rfl); (· rfl); (· with_reducible exact (bitsA_cells _)); (· (repeat (first | ((with_reducible refine blk_here ?_); first | with_reducible rfl | (simp only [World.size_alloc, size_ext, World.size_drew]; done)) | with_reducible refine blk_past ?_ | with_reducible refine blk_extS ?_ | with_reducible refine blk_drewS ?_))); (· (simp only [bitsA_size, wholeA_size, Nat.zero_add, Nat.reduceAdd, Nat.le_refl, Nat.reduceLeDiff])); (· (with_reducible first | exact bitsA_splice _ _ | exact wholeA_splice0 _ _ _ _ | exact wholeA_splice1 _ _ _)); (· (repeat (first | ((with_reducible apply SetTo.here); first | with_reducible rfl | (simp only [World.size_alloc, size_ext, World.size_drew]; done)) | with_reducible apply SetTo.past | with_reducible apply SetTo.ext | with_reducible apply SetTo.drew))); (simp only [Act.put, List.setIfInBounds_toArray, List.set_cons_zero, List.set_cons_succ])) | ((with_reducible show wpList _ _ _ (_ :: _) _ _); (with_reducible apply wpl_allocR row192); (· rfl); (simp only [Act.put, List.setIfInBounds_toArray, List.set_cons_zero, List.set_cons_succ, World.size_alloc, size_ext, World.size_drew])) | ((with_reducible apply ret_rowR row192); (· rfl); (· rfl); (· rfl); (· (repeat (first | ((with_reducible refine blk_here ?_); first | with_reducible rfl | (simp only [World.size_alloc, size_ext, World.size_drew]; done)) | with_reducible refine blk_past ?_ | with_reducible refine blk_extS ?_ | with_reducible refine blk_drewS ?_))); (· (simp only [bitsA_size, wholeA_size, Nat.zero_add, Nat.reduceAdd, Nat.le_refl, Nat.reduceLeDiff])); (exact ⟨rfl, (by repeat (first | exact Ext.refl _ | refine Ext.alloc ?_ _ | refine Ext.ext ?_ _ | refine Ext.drew ?_))⟩)))
set_option maxRecDepth 100000 in
set_option maxHeartbeats 1000000 in
theorem shifted_any (x m : Nat) (hm : m < 192) : Ans 64 #[.agg (bitsA x), .int .i64 m] (.agg (bitsA (x * 2 ^ m))) := by
  intro w
  go_enter Try.func64, Try.ntmps64
  go_wp2_with ((with_reducible show wpList _ _ _ (_ :: _) _ _); (with_reducible apply wpl_allocR row192); (· rfl); (simp only [Act.put, List.setIfInBounds_toArray, List.set_cons_zero, List.set_cons_succ, World.size_alloc, size_ext, World.size_drew]))
  go_loopw [6] (fun i wr => ∃ k : Nat, m ≤ k ∧ k ≤ 192 ∧ i = .int .i64 k ∧ wr = ((w.alloc (.cells (bitsA x) 57)).alloc (.cells (bitsA 0) 57)).alloc (.cells (bitsA ((x * 2 ^ m) % 2 ^ k)) 57)) (fun i _ => 192 - (intOf i).toNat)
  case atStart => exact ⟨m, by omega, by omega, rfl, by rw [Nat.mul_mod_left]⟩
  case round =>
    obtain ⟨k, hm', hk, rfl, rfl⟩ := hrel
    by_cases hlt : k < 192
    · go_wp2_with fail
      go_roundw
      case rel =>
        refine ⟨k + 1, by omega, by omega, by go_num, ?_⟩
        rw [← bitsA_low hlt, Nat.testBit_mul_two_pow]
        simp [hm']
      case measure => simp [intOf]; omega
    · obtain rfl : k = 192 := by omega
      rw [bitsA_mod]
      go_wp2_with (first | ((with_reducible show wpList _ _ _ (_ :: _) _ _); (with_reducible apply wpl_loadR row192); (· rfl); (· rfl); (· (repeat (first | ((with_reducible refine blk_here ?_); first | with_reducible rfl | (simp only [World.size_alloc, size_ext, World.size_drew]; done)) | with_reducible refine blk_past ?_ | with_reducible refine blk_extS ?_ | with_reducible refine blk_drewS ?_))); (· (simp only [bitsA_size, wholeA_size, Nat.zero_add, Nat.reduceAdd, Nat.le_refl, Nat.reduceLeDiff])); (· (with_reducible first | exact bitsA_ext0 _ | exact wholeA_ext0 _ _ | exact wholeA_ext1 _ _)); (simp only [Act.put, List.setIfInBounds_toArray, List.set_cons_zero, List.set_cons_succ])) | ((with_reducible show wpList _ _ _ (_ :: _) _ _); (with_reducible apply wpl_storeR row192); (· rfl); (· rfl); (· rfl); (· with_reducible exact (bitsA_cells _)); (· (repeat (first | ((with_reducible refine blk_here ?_); first | with_reducible rfl | (simp only [World.size_alloc, size_ext, World.size_drew]; done)) | with_reducible refine blk_past ?_ | with_reducible refine blk_extS ?_ | with_reducible refine blk_drewS ?_))); (· (simp only [bitsA_size, wholeA_size, Nat.zero_add, Nat.reduceAdd, Nat.le_refl, Nat.reduceLeDiff])); (· (with_reducible first | exact bitsA_splice _ _ | exact wholeA_splice0 _ _ _ _ | exact wholeA_splice1 _ _ _)); (· (repeat (first | ((with_reducible apply SetTo.here); first | with_reducible rfl | (simp only [World.size_alloc, size_ext, World.size_drew]; done)) | with_reducible apply SetTo.past | with_reducible apply SetTo.ext | with_reducible apply SetTo.drew))); (simp only [Act.put, List.setIfInBounds_toArray, List.set_cons_zero, List.set_cons_succ])) | ((with_reducible show wpList _ _ _ (_ :: _) _ _); (with_reducible apply wpl_allocR row192); (· rfl); (simp only [Act.put, List.setIfInBounds_toArray, List.set_cons_zero, List.set_cons_succ, World.size_alloc, size_ext, World.size_drew])) | ((with_reducible apply ret_rowR row192); (· rfl); (· rfl); (· rfl); (· (repeat (first | ((with_reducible refine blk_here ?_); first | with_reducible rfl | (simp only [World.size_alloc, size_ext, World.size_drew]; done)) | with_reducible refine blk_past ?_ | with_reducible refine blk_extS ?_ | with_reducible refine blk_drewS ?_))); (· (simp only [bitsA_size, wholeA_size, Nat.zero_add, Nat.reduceAdd, Nat.le_refl, Nat.reduceLeDiff])); (exact ⟨rfl, (by repeat (first | exact Ext.refl _ | refine Ext.alloc ?_ _ | refine Ext.ext ?_ _ | refine Ext.drew ?_))⟩)))
end Go.Proofs.Ytfbipghjhngncaa
