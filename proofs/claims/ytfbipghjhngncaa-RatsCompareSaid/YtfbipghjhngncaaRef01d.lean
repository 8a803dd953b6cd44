/- countinghouseref01: a size by another one. -/
import Derived.Test.YtfbipghjhngncaaRef01n
import Derived.Test.YtfbipghjhngncaaRef01c
import Derived.Test.YtfbipghjhngncaaHeld
namespace Go.Proofs.Ytfbipghjhngncaa
open Go.RowKit
set_option linter.unusedSimpArgs false
set_option linter.unusedVariables false
attribute [local go_sem high] bitsA_get wholeA_get

theorem bitsA_push (l : Nat) (b : Bool) : (bitsA (2 * l)).setIfInBounds 0 (.bool b) = bitsA (2 * l + b.toNat) := by
  refine bitsA_set (by omega) ?_ fun i hi => ?_
  · rw [Nat.testBit_zero]; cases b <;> simp <;> omega
  · obtain ⟨j, rfl⟩ : ∃ j, i = j + 1 := ⟨i - 1, by omega⟩
    rw [Nat.testBit_add_one, Nat.testBit_add_one]
    congr 1
    cases b <;> simp <;> omega
theorem bitsA_quot (q k : Nat) (hk : k < 192) : (bitsA (q * 2 ^ (k + 1))).setIfInBounds k (.bool true) = bitsA ((2 * q + 1) * 2 ^ k) := by
  refine bitsA_set hk ?_ fun i hi => ?_
  · rw [Nat.testBit_mul_two_pow]; simp
  · rw [Nat.testBit_mul_two_pow, Nat.testBit_mul_two_pow]
    by_cases h : i < k
    · rw [decide_eq_false (by omega), decide_eq_false (by omega)]; rfl
    · rw [decide_eq_true (by omega), decide_eq_true (by omega), show i - k = (i - (k + 1)) + 1 by omega, Nat.testBit_add_one]
      congr 2; omega
def qrB (x y k : Nat) (q l : Nat) : Prop := x / 2 ^ k = y * q + l ∧ l < y
theorem qr_start (x y : Nat) (hx : x < 2 ^ 192) (hy : 0 < y) : qrB x y 192 0 0 := ⟨by rw [Nat.div_eq_of_lt hx]; simp, hy⟩
theorem qr_less {x y k q l : Nat} {b : Bool} (h : qrB x y (k + 1) q l) (hb : x.testBit k = b) (hlt : 2 * l + b.toNat < y) : qrB x y k (2 * q) (2 * l + b.toNat) := by
  refine ⟨?_, hlt⟩
  rw [div_succ, h.1, bit_of hb, Nat.mul_add, ← Nat.mul_assoc, Nat.mul_comm 2 y, Nat.mul_assoc]; omega
theorem qr_more {x y k q l : Nat} {b : Bool} (h : qrB x y (k + 1) q l) (hb : x.testBit k = b) (hge : y ≤ 2 * l + b.toNat) : qrB x y k (2 * q + 1) (2 * l + b.toNat - y) := by
  have hb1 : b.toNat ≤ 1 := by cases b <;> simp
  have := h.2
  refine ⟨?_, by omega⟩
  rw [div_succ, h.1, bit_of hb, Nat.mul_add, Nat.mul_add, ← Nat.mul_assoc, Nat.mul_comm 2 y, Nat.mul_assoc]; omega
theorem qr_end {x y q l : Nat} (h : qrB x y 0 q l) : q = x / y ∧ l = x % y := by
  have h1 := h.1
  rw [Nat.pow_zero, Nat.div_one] at h1
  subst h1
  have hy : 0 < y := by have := h.2; omega
  exact ⟨by rw [Nat.mul_add_div hy, Nat.div_eq_of_lt h.2]; rfl, by rw [Nat.mul_add_mod, Nat.mod_eq_of_lt h.2]⟩
set_option maxRecDepth 100000 in
set_option maxHeartbeats 4000000 in
theorem divided_any (x y : Nat) (hx : x < 2 ^ 192) (hy : 0 < y) (hy1 : y < 2 ^ 64) : Ans 67 #[.agg (bitsA x), .agg (bitsA y)] (.tuple #[.agg (bitsA (x / y)), .agg (bitsA (x % y))]) := by
  intro w
  have HS := Lib.hid (qr_start x y hx hy)
  have HY := Lib.hid hy1
  clear hx hy hy1
  go_enter Try.func67, Try.ntmps67
  go_wp2_with (first | ((with_reducible show wpList _ _ _ (_ :: _) _ _); (with_reducible apply wpl_loadR row192); (· rfl); (· rfl); (· (repeat (first | ((with_reducible refine blk_here ?_); first | with_reducible rfl | (simp only [World.size_alloc, size_ext, World.size_drew]; done)) | with_reducible refine blk_past ?_ | with_reducible refine blk_extS ?_ | with_reducible refine blk_drewS ?_))); (· (first | (simp only [bitsA_size, wholeA_size, Nat.zero_add, Nat.reduceAdd, Nat.le_refl, Nat.reduceLeDiff]; done) | with_reducible rfl | (simp; done))); (· (with_reducible first | exact bitsA_ext0 _ | exact wholeA_ext0 _ _ | exact wholeA_ext1 _ _)); (simp only [Act.put, List.setIfInBounds_toArray, List.set_cons_zero, List.set_cons_succ])) | ((with_reducible show wpList _ _ _ (_ :: _) _ _); (with_reducible apply wpl_storeR row192); (· rfl); (· rfl); (· rfl); (· with_reducible exact (bitsA_cells _)); (· (repeat (first | ((with_reducible refine blk_here ?_); first | with_reducible rfl | (simp only [World.size_alloc, size_ext, World.size_drew]; done)) | with_reducible refine blk_past ?_ | with_reducible refine blk_extS ?_ | with_reducible refine blk_drewS ?_))); (· (first | (simp only [bitsA_size, wholeA_size, Nat.zero_add, Nat.reduceAdd, Nat.le_refl, Nat.reduceLeDiff]; done) | with_reducible rfl | (simp; done))); (· (with_reducible first | exact bitsA_splice _ _ | exact wholeA_splice0 _ _ _ _ | exact wholeA_splice1 _ _ _)); (· (repeat (first | ((with_reducible apply SetTo.here); first | with_reducible rfl | (simp only [World.size_alloc, size_ext, World.size_drew]; done)) | with_reducible apply SetTo.past | with_reducible apply SetTo.ext | with_reducible apply SetTo.drew))); (simp only [Act.put, List.setIfInBounds_toArray, List.set_cons_zero, List.set_cons_succ])) | ((with_reducible show wpList _ _ _ (_ :: _) _ _); (with_reducible apply wpl_allocR row192); (· rfl); (simp only [Act.put, List.setIfInBounds_toArray, List.set_cons_zero, List.set_cons_succ, World.size_alloc, size_ext, World.size_drew])) | ((with_reducible apply ret_rowR row192); (· rfl); (· rfl); (· rfl); (· (repeat (first | ((with_reducible refine blk_here ?_); first | with_reducible rfl | (simp only [World.size_alloc, size_ext, World.size_drew]; done)) | with_reducible refine blk_past ?_ | with_reducible refine blk_extS ?_ | with_reducible refine blk_drewS ?_))); (· (first | (simp only [bitsA_size, wholeA_size, Nat.zero_add, Nat.reduceAdd, Nat.le_refl, Nat.reduceLeDiff]; done) | with_reducible rfl | (simp; done))); (exact ⟨rfl, (by repeat (first | exact Ext.refl _ | refine Ext.alloc ?_ _ | refine Ext.ext ?_ _ | refine Ext.drew ?_))⟩)))
  go_loopw [8] (fun i wr => ∃ k q l : Nat, k ≤ 192 ∧ i = .int .i64 ((k : Int) - 1) ∧ Hid (qrB x y k q l) ∧ ∃ d, wr = World.ext ((((((w.alloc (.cells (bitsA x) 57)).alloc (.cells (bitsA y) 57)).alloc (.cells (bitsA 0) 57)).alloc (.cells (bitsA 0) 57)).alloc (.cells (bitsA (q * 2 ^ k)) 57)).alloc (.cells (bitsA l) 57)) d) (fun i _ => ((intOf i) + 1).toNat)
  case atStart =>
    refine ⟨192, 0, 0, by omega, rfl, HS, ?_⟩
    rw [Nat.zero_mul]
    exact exts_refl _
  case round =>
    obtain ⟨k, q, l, hk, rfl, HQ, d, rfl⟩ := hrel
    rcases k with _ | k
    · have e := qr_end HQ.out
      rw [e.1, e.2, Nat.pow_zero, Nat.mul_one]
      clear e HQ HS
      go_wp2_with (first | ((with_reducible show wpList _ _ _ (_ :: _) _ _); (with_reducible apply wpl_loadR row192); (· rfl); (· rfl); (· (repeat (first | ((with_reducible refine blk_here ?_); first | with_reducible rfl | (simp only [World.size_alloc, size_ext, World.size_drew]; done)) | with_reducible refine blk_past ?_ | with_reducible refine blk_extS ?_ | with_reducible refine blk_drewS ?_))); (· (first | (simp only [bitsA_size, wholeA_size, Nat.zero_add, Nat.reduceAdd, Nat.le_refl, Nat.reduceLeDiff]; done) | with_reducible rfl | (simp; done))); (· (with_reducible first | exact bitsA_ext0 _ | exact wholeA_ext0 _ _ | exact wholeA_ext1 _ _)); (simp only [Act.put, List.setIfInBounds_toArray, List.set_cons_zero, List.set_cons_succ])) | ((with_reducible show wpList _ _ _ (_ :: _) _ _); (with_reducible apply wpl_storeR row192); (· rfl); (· rfl); (· rfl); (· with_reducible exact (bitsA_cells _)); (· (repeat (first | ((with_reducible refine blk_here ?_); first | with_reducible rfl | (simp only [World.size_alloc, size_ext, World.size_drew]; done)) | with_reducible refine blk_past ?_ | with_reducible refine blk_extS ?_ | with_reducible refine blk_drewS ?_))); (· (first | (simp only [bitsA_size, wholeA_size, Nat.zero_add, Nat.reduceAdd, Nat.le_refl, Nat.reduceLeDiff]; done) | with_reducible rfl | (simp; done))); (· (with_reducible first | exact bitsA_splice _ _ | exact wholeA_splice0 _ _ _ _ | exact wholeA_splice1 _ _ _)); (· (repeat (first | ((with_reducible apply SetTo.here); first | with_reducible rfl | (simp only [World.size_alloc, size_ext, World.size_drew]; done)) | with_reducible apply SetTo.past | with_reducible apply SetTo.ext | with_reducible apply SetTo.drew))); (simp only [Act.put, List.setIfInBounds_toArray, List.set_cons_zero, List.set_cons_succ])) | ((with_reducible show wpList _ _ _ (_ :: _) _ _); (with_reducible apply wpl_allocR row192); (· rfl); (simp only [Act.put, List.setIfInBounds_toArray, List.set_cons_zero, List.set_cons_succ, World.size_alloc, size_ext, World.size_drew])) | ((with_reducible apply ret_rowR row192); (· rfl); (· rfl); (· rfl); (· (repeat (first | ((with_reducible refine blk_here ?_); first | with_reducible rfl | (simp only [World.size_alloc, size_ext, World.size_drew]; done)) | with_reducible refine blk_past ?_ | with_reducible refine blk_extS ?_ | with_reducible refine blk_drewS ?_))); (· (first | (simp only [bitsA_size, wholeA_size, Nat.zero_add, Nat.reduceAdd, Nat.le_refl, Nat.reduceLeDiff]; done) | with_reducible rfl | (simp; done))); (exact ⟨rfl, (by repeat (first | exact Ext.refl _ | refine Ext.alloc ?_ _ | refine Ext.ext ?_ _ | refine Ext.drew ?_))⟩)))
      refine wp_region_held (S := fun w' => blk w' (w.heap.size + 1 + 1 + 1 + 1) = some (.cells (bitsA (x / y)) 57) ∧ blk w' (w.heap.size + 1 + 1 + 1 + 1 + 1) = some (.cells (bitsA (x % y)) 57)) (by kernel_rfl) ?_
      simp only [World.drew_eq]
      show wpAnyH _ _ _ _ _ (3 + 1) (Array.replicate 4 false) _ _
      (with_reducible apply wpAnyH_takeR (i := 0) row192)
      · rfl
      · kernel_rfl
      · kernel_rfl
      · kernel_rfl
      · exact fun _ _ _ h => h
      · rfl
      · rfl
      · exact ⟨by (repeat (first | ((with_reducible refine blk_here ?_); first | with_reducible rfl | (simp only [World.size_alloc, size_ext, World.size_drew]; done)) | with_reducible refine blk_past ?_ | with_reducible refine blk_extS ?_ | with_reducible refine blk_drewS ?_)), by (repeat (first | ((with_reducible refine blk_here ?_); first | with_reducible rfl | (simp only [World.size_alloc, size_ext, World.size_drew]; done)) | with_reducible refine blk_past ?_ | with_reducible refine blk_extS ?_ | with_reducible refine blk_drewS ?_))⟩
      · exact fun _ h => h.1
      · (first | (simp only [bitsA_size, wholeA_size, Nat.zero_add, Nat.reduceAdd, Nat.le_refl, Nat.reduceLeDiff]; done) | with_reducible rfl | (simp; done))
      · with_reducible exact bitsA_ext0 _
      (simp only [Act.put, List.setIfInBounds_toArray, List.set_cons_zero, List.set_cons_succ])
      show wpAnyH _ _ _ _ _ (2 + 1) _ _ _
      (with_reducible apply wpAnyH_takeR (i := 1) row192)
      · rfl
      · kernel_rfl
      · kernel_rfl
      · kernel_rfl
      · exact fun _ _ _ h => h
      · rfl
      · rfl
      · exact ⟨by (repeat (first | ((with_reducible refine blk_here ?_); first | with_reducible rfl | (simp only [World.size_alloc, size_ext, World.size_drew]; done)) | with_reducible refine blk_past ?_ | with_reducible refine blk_extS ?_ | with_reducible refine blk_drewS ?_)), by (repeat (first | ((with_reducible refine blk_here ?_); first | with_reducible rfl | (simp only [World.size_alloc, size_ext, World.size_drew]; done)) | with_reducible refine blk_past ?_ | with_reducible refine blk_extS ?_ | with_reducible refine blk_drewS ?_))⟩
      · exact fun _ h => h.2
      · (first | (simp only [bitsA_size, wholeA_size, Nat.zero_add, Nat.reduceAdd, Nat.le_refl, Nat.reduceLeDiff]; done) | with_reducible rfl | (simp; done))
      · with_reducible exact bitsA_ext0 _
      (simp only [Act.put, List.setIfInBounds_toArray, List.set_cons_zero, List.set_cons_succ])
      show wpAnyH _ _ _ _ _ (1 + 1) _ _ _
      (with_reducible apply wpAnyH_storeR (i := 2) row192)
      · kernel_rfl
      · rfl
      · rfl
      · rfl
      · rfl
      · with_reducible exact bitsA_cells _
      · (repeat (first | ((with_reducible refine blk_here ?_); first | with_reducible rfl | (simp only [World.size_alloc, size_ext, World.size_drew]; done)) | with_reducible refine blk_past ?_ | with_reducible refine blk_extS ?_ | with_reducible refine blk_drewS ?_))
      · (first | (simp only [bitsA_size, wholeA_size, Nat.zero_add, Nat.reduceAdd, Nat.le_refl, Nat.reduceLeDiff]; done) | with_reducible rfl | (simp; done))
      · with_reducible exact bitsA_splice _ _
      · (repeat (first | ((with_reducible apply SetTo.here); first | with_reducible rfl | (simp only [World.size_alloc, size_ext, World.size_drew]; done)) | with_reducible apply SetTo.past | with_reducible apply SetTo.ext | with_reducible apply SetTo.drew))
      · exact ⟨by (repeat (first | ((with_reducible refine blk_here ?_); first | with_reducible rfl | (simp only [World.size_alloc, size_ext, World.size_drew]; done)) | with_reducible refine blk_past ?_ | with_reducible refine blk_extS ?_ | with_reducible refine blk_drewS ?_)), by (repeat (first | ((with_reducible refine blk_here ?_); first | with_reducible rfl | (simp only [World.size_alloc, size_ext, World.size_drew]; done)) | with_reducible refine blk_past ?_ | with_reducible refine blk_extS ?_ | with_reducible refine blk_drewS ?_))⟩
      (simp only [Act.put, List.setIfInBounds_toArray, List.set_cons_zero, List.set_cons_succ])
      show wpAnyH _ _ _ _ _ (0 + 1) _ _ _
      (with_reducible apply wpAnyH_storeR (i := 3) row192)
      · kernel_rfl
      · rfl
      · rfl
      · rfl
      · rfl
      · with_reducible exact bitsA_cells _
      · (repeat (first | ((with_reducible refine blk_here ?_); first | with_reducible rfl | (simp only [World.size_alloc, size_ext, World.size_drew]; done)) | with_reducible refine blk_past ?_ | with_reducible refine blk_extS ?_ | with_reducible refine blk_drewS ?_))
      · (first | (simp only [bitsA_size, wholeA_size, Nat.zero_add, Nat.reduceAdd, Nat.le_refl, Nat.reduceLeDiff]; done) | with_reducible rfl | (simp; done))
      · with_reducible exact bitsA_splice _ _
      · (repeat (first | ((with_reducible apply SetTo.here); first | with_reducible rfl | (simp only [World.size_alloc, size_ext, World.size_drew]; done)) | with_reducible apply SetTo.past | with_reducible apply SetTo.ext | with_reducible apply SetTo.drew))
      · exact ⟨by (repeat (first | ((with_reducible refine blk_here ?_); first | with_reducible rfl | (simp only [World.size_alloc, size_ext, World.size_drew]; done)) | with_reducible refine blk_past ?_ | with_reducible refine blk_extS ?_ | with_reducible refine blk_drewS ?_)), by (repeat (first | ((with_reducible refine blk_here ?_); first | with_reducible rfl | (simp only [World.size_alloc, size_ext, World.size_drew]; done)) | with_reducible refine blk_past ?_ | with_reducible refine blk_extS ?_ | with_reducible refine blk_drewS ?_))⟩
      (simp only [Act.put, List.setIfInBounds_toArray, List.set_cons_zero, List.set_cons_succ])
      refine wpAnyH_done (by kernel_rfl) ?_ _
      go_wp2_with ((with_reducible apply ret_rowR2 row192); (· rfl); (· rfl); (· rfl); (· rfl); (· (repeat (first | ((with_reducible refine blk_here ?_); first | with_reducible rfl | (simp only [World.size_alloc, size_ext, World.size_drew]; done)) | with_reducible refine blk_past ?_ | with_reducible refine blk_extS ?_ | with_reducible refine blk_drewS ?_))); (· (repeat (first | ((with_reducible refine blk_here ?_); first | with_reducible rfl | (simp only [World.size_alloc, size_ext, World.size_drew]; done)) | with_reducible refine blk_past ?_ | with_reducible refine blk_extS ?_ | with_reducible refine blk_drewS ?_))); (· (first | (simp only [bitsA_size, wholeA_size, Nat.zero_add, Nat.reduceAdd, Nat.le_refl, Nat.reduceLeDiff]; done) | with_reducible rfl | (simp; done))); (· (first | (simp only [bitsA_size, wholeA_size, Nat.zero_add, Nat.reduceAdd, Nat.le_refl, Nat.reduceLeDiff]; done) | with_reducible rfl | (simp; done))); (exact ⟨rfl, (by repeat (first | exact Ext.refl _ | refine Ext.alloc ?_ _ | refine Ext.ext ?_ _ | refine Ext.drew ?_))⟩))
    · have e : (((k + 1 : Nat) : Int) - 1) = (k : Int) := by omega
      rw [e]
      clear e HS
      have hsh : Ans 64 #[.agg (bitsA l), .int .i64 1] (.agg (bitsA (2 * l))) := (show Ans _ #[.agg (bitsA l), .int .i64 1] _ from shifted_any l 1 (by omega)).to (by rw [Nat.pow_one, Nat.mul_comm])
      have hl := HQ.out.2
      have hy1 := HY.out
      cases hb : x.testBit k
      all_goals
        have HP := Lib.hid (bitsA_push l (x.testBit k))
        rw [hb] at HP
        have HL := Lib.hid (qr_less HQ.out hb)
        have HM := Lib.hid (qr_more HQ.out hb)
        simp only [Bool.toNat_true, Bool.toNat_false, Nat.add_zero] at HP HL HM
        clear HQ
      · have hg := greater_any y (2 * l) (by omega) (by omega)
        by_cases hlt : 2 * l < y
        · replace hg := hg.to (show _ = Value.bool true by simp [hlt])
          have HL := Lib.hid (HL.out hlt)
          clear HM hlt
          go_wp2_with (first | ((with_reducible show wpList _ _ _ (_ :: _) _ _); (with_reducible apply wpl_loadR row192); (· rfl); (· rfl); (· (repeat (first | ((with_reducible refine blk_here ?_); first | with_reducible rfl | (simp only [World.size_alloc, size_ext, World.size_drew]; done)) | with_reducible refine blk_past ?_ | with_reducible refine blk_extS ?_ | with_reducible refine blk_drewS ?_))); (· (first | (simp only [bitsA_size, wholeA_size, Nat.zero_add, Nat.reduceAdd, Nat.le_refl, Nat.reduceLeDiff]; done) | with_reducible rfl | (simp; done))); (· (with_reducible first | exact bitsA_ext0 _ | exact wholeA_ext0 _ _ | exact wholeA_ext1 _ _)); (simp only [Act.put, List.setIfInBounds_toArray, List.set_cons_zero, List.set_cons_succ])) | ((with_reducible show wpList _ _ _ (_ :: _) _ _); (with_reducible apply wpl_storeR row192); (· rfl); (· rfl); (· rfl); (· with_reducible exact (bitsA_cells _)); (· (repeat (first | ((with_reducible refine blk_here ?_); first | with_reducible rfl | (simp only [World.size_alloc, size_ext, World.size_drew]; done)) | with_reducible refine blk_past ?_ | with_reducible refine blk_extS ?_ | with_reducible refine blk_drewS ?_))); (· (first | (simp only [bitsA_size, wholeA_size, Nat.zero_add, Nat.reduceAdd, Nat.le_refl, Nat.reduceLeDiff]; done) | with_reducible rfl | (simp; done))); (· (with_reducible first | exact bitsA_splice _ _ | exact wholeA_splice0 _ _ _ _ | exact wholeA_splice1 _ _ _)); (· (repeat (first | ((with_reducible apply SetTo.here); first | with_reducible rfl | (simp only [World.size_alloc, size_ext, World.size_drew]; done)) | with_reducible apply SetTo.past | with_reducible apply SetTo.ext | with_reducible apply SetTo.drew))); (simp only [Act.put, List.setIfInBounds_toArray, List.set_cons_zero, List.set_cons_succ])) | ((with_reducible show wpList _ _ _ (_ :: _) _ _); (with_reducible apply wpl_loadC cellBool); (· rfl); (· rfl); (· (repeat (first | ((with_reducible refine blk_here ?_); first | with_reducible rfl | (simp only [World.size_alloc, size_ext, World.size_drew]; done)) | with_reducible refine blk_past ?_ | with_reducible refine blk_extS ?_ | with_reducible refine blk_drewS ?_))); (· (rw [bitsA_get, if_pos (by omega), hb])); (simp only [Act.put, List.setIfInBounds_toArray, List.set_cons_zero, List.set_cons_succ])) | ((with_reducible show wpList _ _ _ (_ :: _) _ _); (with_reducible apply wpl_storeB cellBool); (· rfl); (· rfl); (· rfl); (· (repeat (first | ((with_reducible refine blk_here ?_); first | with_reducible rfl | (simp only [World.size_alloc, size_ext, World.size_drew]; done)) | with_reducible refine blk_past ?_ | with_reducible refine blk_extS ?_ | with_reducible refine blk_drewS ?_))); (· (simp only [bitsA_size]; omega)); (· (first | with_reducible exact HP.out | with_reducible exact bitsA_quot q k (by omega))); (· (repeat (first | ((with_reducible apply SetTo.here); first | with_reducible rfl | (simp only [World.size_alloc, size_ext, World.size_drew]; done)) | with_reducible apply SetTo.past | with_reducible apply SetTo.ext | with_reducible apply SetTo.drew))); (simp only [Act.put, List.setIfInBounds_toArray, List.set_cons_zero, List.set_cons_succ])) | ((with_reducible refine Ans.call (by assumption) ?_); intro _))
          go_roundw
          case rel =>
            refine ⟨k, 2 * q, 2 * l, by omega, rfl, HL, ?_⟩
            rw [show 2 * q * 2 ^ k = q * 2 ^ (k + 1) by rw [Nat.pow_succ, Nat.mul_comm 2 q, Nat.mul_assoc, Nat.mul_comm 2]]
            exact ext_of (by repeat (first | exact Ext.refl _ | refine Ext.alloc ?_ _ | refine Ext.ext ?_ _ | refine Ext.drew ?_))
          case measure => first | (simp [intOf]; done) | (simp [intOf]; omega)
        · replace hg := hg.to (show _ = Value.bool false by simp; omega)
          have hls := less_any (2 * l) y (by omega)
          have HM := Lib.hid (HM.out (by omega))
          clear HL hlt
          go_wp2_with (first | ((with_reducible show wpList _ _ _ (_ :: _) _ _); (with_reducible apply wpl_loadR row192); (· rfl); (· rfl); (· (repeat (first | ((with_reducible refine blk_here ?_); first | with_reducible rfl | (simp only [World.size_alloc, size_ext, World.size_drew]; done)) | with_reducible refine blk_past ?_ | with_reducible refine blk_extS ?_ | with_reducible refine blk_drewS ?_))); (· (first | (simp only [bitsA_size, wholeA_size, Nat.zero_add, Nat.reduceAdd, Nat.le_refl, Nat.reduceLeDiff]; done) | with_reducible rfl | (simp; done))); (· (with_reducible first | exact bitsA_ext0 _ | exact wholeA_ext0 _ _ | exact wholeA_ext1 _ _)); (simp only [Act.put, List.setIfInBounds_toArray, List.set_cons_zero, List.set_cons_succ])) | ((with_reducible show wpList _ _ _ (_ :: _) _ _); (with_reducible apply wpl_storeR row192); (· rfl); (· rfl); (· rfl); (· with_reducible exact (bitsA_cells _)); (· (repeat (first | ((with_reducible refine blk_here ?_); first | with_reducible rfl | (simp only [World.size_alloc, size_ext, World.size_drew]; done)) | with_reducible refine blk_past ?_ | with_reducible refine blk_extS ?_ | with_reducible refine blk_drewS ?_))); (· (first | (simp only [bitsA_size, wholeA_size, Nat.zero_add, Nat.reduceAdd, Nat.le_refl, Nat.reduceLeDiff]; done) | with_reducible rfl | (simp; done))); (· (with_reducible first | exact bitsA_splice _ _ | exact wholeA_splice0 _ _ _ _ | exact wholeA_splice1 _ _ _)); (· (repeat (first | ((with_reducible apply SetTo.here); first | with_reducible rfl | (simp only [World.size_alloc, size_ext, World.size_drew]; done)) | with_reducible apply SetTo.past | with_reducible apply SetTo.ext | with_reducible apply SetTo.drew))); (simp only [Act.put, List.setIfInBounds_toArray, List.set_cons_zero, List.set_cons_succ])) | ((with_reducible show wpList _ _ _ (_ :: _) _ _); (with_reducible apply wpl_loadC cellBool); (· rfl); (· rfl); (· (repeat (first | ((with_reducible refine blk_here ?_); first | with_reducible rfl | (simp only [World.size_alloc, size_ext, World.size_drew]; done)) | with_reducible refine blk_past ?_ | with_reducible refine blk_extS ?_ | with_reducible refine blk_drewS ?_))); (· (rw [bitsA_get, if_pos (by omega), hb])); (simp only [Act.put, List.setIfInBounds_toArray, List.set_cons_zero, List.set_cons_succ])) | ((with_reducible show wpList _ _ _ (_ :: _) _ _); (with_reducible apply wpl_storeB cellBool); (· rfl); (· rfl); (· rfl); (· (repeat (first | ((with_reducible refine blk_here ?_); first | with_reducible rfl | (simp only [World.size_alloc, size_ext, World.size_drew]; done)) | with_reducible refine blk_past ?_ | with_reducible refine blk_extS ?_ | with_reducible refine blk_drewS ?_))); (· (simp only [bitsA_size]; omega)); (· (first | with_reducible exact HP.out | with_reducible exact bitsA_quot q k (by omega))); (· (repeat (first | ((with_reducible apply SetTo.here); first | with_reducible rfl | (simp only [World.size_alloc, size_ext, World.size_drew]; done)) | with_reducible apply SetTo.past | with_reducible apply SetTo.ext | with_reducible apply SetTo.drew))); (simp only [Act.put, List.setIfInBounds_toArray, List.set_cons_zero, List.set_cons_succ])) | ((with_reducible refine Ans.call (by assumption) ?_); intro _))
          go_roundw
          case rel =>
            refine ⟨k, 2 * q + 1, 2 * l - y, by omega, rfl, HM, ?_⟩
            exact ext_of (by repeat (first | exact Ext.refl _ | refine Ext.alloc ?_ _ | refine Ext.ext ?_ _ | refine Ext.drew ?_))
          case measure => first | (simp [intOf]; done) | (simp [intOf]; omega)
      · have hg := greater_any y (2 * l + 1) (by omega) (by omega)
        by_cases hlt : 2 * l + 1 < y
        · replace hg := hg.to (show _ = Value.bool true by simp [hlt])
          have HL := Lib.hid (HL.out hlt)
          clear HM hlt
          go_wp2_with (first | ((with_reducible show wpList _ _ _ (_ :: _) _ _); (with_reducible apply wpl_loadR row192); (· rfl); (· rfl); (· (repeat (first | ((with_reducible refine blk_here ?_); first | with_reducible rfl | (simp only [World.size_alloc, size_ext, World.size_drew]; done)) | with_reducible refine blk_past ?_ | with_reducible refine blk_extS ?_ | with_reducible refine blk_drewS ?_))); (· (first | (simp only [bitsA_size, wholeA_size, Nat.zero_add, Nat.reduceAdd, Nat.le_refl, Nat.reduceLeDiff]; done) | with_reducible rfl | (simp; done))); (· (with_reducible first | exact bitsA_ext0 _ | exact wholeA_ext0 _ _ | exact wholeA_ext1 _ _)); (simp only [Act.put, List.setIfInBounds_toArray, List.set_cons_zero, List.set_cons_succ])) | ((with_reducible show wpList _ _ _ (_ :: _) _ _); (with_reducible apply wpl_storeR row192); (· rfl); (· rfl); (· rfl); (· with_reducible exact (bitsA_cells _)); (· (repeat (first | ((with_reducible refine blk_here ?_); first | with_reducible rfl | (simp only [World.size_alloc, size_ext, World.size_drew]; done)) | with_reducible refine blk_past ?_ | with_reducible refine blk_extS ?_ | with_reducible refine blk_drewS ?_))); (· (first | (simp only [bitsA_size, wholeA_size, Nat.zero_add, Nat.reduceAdd, Nat.le_refl, Nat.reduceLeDiff]; done) | with_reducible rfl | (simp; done))); (· (with_reducible first | exact bitsA_splice _ _ | exact wholeA_splice0 _ _ _ _ | exact wholeA_splice1 _ _ _)); (· (repeat (first | ((with_reducible apply SetTo.here); first | with_reducible rfl | (simp only [World.size_alloc, size_ext, World.size_drew]; done)) | with_reducible apply SetTo.past | with_reducible apply SetTo.ext | with_reducible apply SetTo.drew))); (simp only [Act.put, List.setIfInBounds_toArray, List.set_cons_zero, List.set_cons_succ])) | ((with_reducible show wpList _ _ _ (_ :: _) _ _); (with_reducible apply wpl_loadC cellBool); (· rfl); (· rfl); (· (repeat (first | ((with_reducible refine blk_here ?_); first | with_reducible rfl | (simp only [World.size_alloc, size_ext, World.size_drew]; done)) | with_reducible refine blk_past ?_ | with_reducible refine blk_extS ?_ | with_reducible refine blk_drewS ?_))); (· (rw [bitsA_get, if_pos (by omega), hb])); (simp only [Act.put, List.setIfInBounds_toArray, List.set_cons_zero, List.set_cons_succ])) | ((with_reducible show wpList _ _ _ (_ :: _) _ _); (with_reducible apply wpl_storeB cellBool); (· rfl); (· rfl); (· rfl); (· (repeat (first | ((with_reducible refine blk_here ?_); first | with_reducible rfl | (simp only [World.size_alloc, size_ext, World.size_drew]; done)) | with_reducible refine blk_past ?_ | with_reducible refine blk_extS ?_ | with_reducible refine blk_drewS ?_))); (· (simp only [bitsA_size]; omega)); (· (first | with_reducible exact HP.out | with_reducible exact bitsA_quot q k (by omega))); (· (repeat (first | ((with_reducible apply SetTo.here); first | with_reducible rfl | (simp only [World.size_alloc, size_ext, World.size_drew]; done)) | with_reducible apply SetTo.past | with_reducible apply SetTo.ext | with_reducible apply SetTo.drew))); (simp only [Act.put, List.setIfInBounds_toArray, List.set_cons_zero, List.set_cons_succ])) | ((with_reducible refine Ans.call (by assumption) ?_); intro _))
          go_roundw
          case rel =>
            refine ⟨k, 2 * q, 2 * l + 1, by omega, rfl, HL, ?_⟩
            rw [show 2 * q * 2 ^ k = q * 2 ^ (k + 1) by rw [Nat.pow_succ, Nat.mul_comm 2 q, Nat.mul_assoc, Nat.mul_comm 2]]
            exact ext_of (by repeat (first | exact Ext.refl _ | refine Ext.alloc ?_ _ | refine Ext.ext ?_ _ | refine Ext.drew ?_))
          case measure => first | (simp [intOf]; done) | (simp [intOf]; omega)
        · replace hg := hg.to (show _ = Value.bool false by simp; omega)
          have hls := less_any (2 * l + 1) y (by omega)
          have HM := Lib.hid (HM.out (by omega))
          clear HL hlt
          go_wp2_with (first | ((with_reducible show wpList _ _ _ (_ :: _) _ _); (with_reducible apply wpl_loadR row192); (· rfl); (· rfl); (· (repeat (first | ((with_reducible refine blk_here ?_); first | with_reducible rfl | (simp only [World.size_alloc, size_ext, World.size_drew]; done)) | with_reducible refine blk_past ?_ | with_reducible refine blk_extS ?_ | with_reducible refine blk_drewS ?_))); (· (first | (simp only [bitsA_size, wholeA_size, Nat.zero_add, Nat.reduceAdd, Nat.le_refl, Nat.reduceLeDiff]; done) | with_reducible rfl | (simp; done))); (· (with_reducible first | exact bitsA_ext0 _ | exact wholeA_ext0 _ _ | exact wholeA_ext1 _ _)); (simp only [Act.put, List.setIfInBounds_toArray, List.set_cons_zero, List.set_cons_succ])) | ((with_reducible show wpList _ _ _ (_ :: _) _ _); (with_reducible apply wpl_storeR row192); (· rfl); (· rfl); (· rfl); (· with_reducible exact (bitsA_cells _)); (· (repeat (first | ((with_reducible refine blk_here ?_); first | with_reducible rfl | (simp only [World.size_alloc, size_ext, World.size_drew]; done)) | with_reducible refine blk_past ?_ | with_reducible refine blk_extS ?_ | with_reducible refine blk_drewS ?_))); (· (first | (simp only [bitsA_size, wholeA_size, Nat.zero_add, Nat.reduceAdd, Nat.le_refl, Nat.reduceLeDiff]; done) | with_reducible rfl | (simp; done))); (· (with_reducible first | exact bitsA_splice _ _ | exact wholeA_splice0 _ _ _ _ | exact wholeA_splice1 _ _ _)); (· (repeat (first | ((with_reducible apply SetTo.here); first | with_reducible rfl | (simp only [World.size_alloc, size_ext, World.size_drew]; done)) | with_reducible apply SetTo.past | with_reducible apply SetTo.ext | with_reducible apply SetTo.drew))); (simp only [Act.put, List.setIfInBounds_toArray, List.set_cons_zero, List.set_cons_succ])) | ((with_reducible show wpList _ _ _ (_ :: _) _ _); (with_reducible apply wpl_loadC cellBool); (· rfl); (· rfl); (· (repeat (first | ((with_reducible refine blk_here ?_); first | with_reducible rfl | (simp only [World.size_alloc, size_ext, World.size_drew]; done)) | with_reducible refine blk_past ?_ | with_reducible refine blk_extS ?_ | with_reducible refine blk_drewS ?_))); (· (rw [bitsA_get, if_pos (by omega), hb])); (simp only [Act.put, List.setIfInBounds_toArray, List.set_cons_zero, List.set_cons_succ])) | ((with_reducible show wpList _ _ _ (_ :: _) _ _); (with_reducible apply wpl_storeB cellBool); (· rfl); (· rfl); (· rfl); (· (repeat (first | ((with_reducible refine blk_here ?_); first | with_reducible rfl | (simp only [World.size_alloc, size_ext, World.size_drew]; done)) | with_reducible refine blk_past ?_ | with_reducible refine blk_extS ?_ | with_reducible refine blk_drewS ?_))); (· (simp only [bitsA_size]; omega)); (· (first | with_reducible exact HP.out | with_reducible exact bitsA_quot q k (by omega))); (· (repeat (first | ((with_reducible apply SetTo.here); first | with_reducible rfl | (simp only [World.size_alloc, size_ext, World.size_drew]; done)) | with_reducible apply SetTo.past | with_reducible apply SetTo.ext | with_reducible apply SetTo.drew))); (simp only [Act.put, List.setIfInBounds_toArray, List.set_cons_zero, List.set_cons_succ])) | ((with_reducible refine Ans.call (by assumption) ?_); intro _))
          go_roundw
          case rel =>
            refine ⟨k, 2 * q + 1, 2 * l + 1 - y, by omega, rfl, HM, ?_⟩
            exact ext_of (by repeat (first | exact Ext.refl _ | refine Ext.alloc ?_ _ | refine Ext.ext ?_ _ | refine Ext.drew ?_))
          case measure => first | (simp [intOf]; done) | (simp [intOf]; omega)
end Go.Proofs.Ytfbipghjhngncaa
