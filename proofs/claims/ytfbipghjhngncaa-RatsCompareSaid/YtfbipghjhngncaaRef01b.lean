/- countinghouseref01: which of two sizes is greater, a number as a whole one. -/
import Derived.Test.YtfbipghjhngncaaBuild
namespace Go.Proofs.Ytfbipghjhngncaa
open Go.RowKit
set_option linter.unusedSimpArgs false
set_option linter.unusedVariables false
attribute [local go_sem high] bitsA_get wholeA_get

theorem exts_refl (w : World) : ∃ d, w = World.ext w d := ext_of (Below.refl _ _)
theorem greater_hit {x y k : Nat} (h : x / 2 ^ (k + 1) = y / 2 ^ (k + 1)) (hne : x.testBit k ≠ y.testBit k) : x.testBit k = decide (y < x) := by
  have e1 := div_succ x k
  have e2 := div_succ y k
  rw [h] at e1
  have hlt : ∀ {a b : Nat}, a / 2 ^ k < b / 2 ^ k → a < b := fun {a b} h => by
    rcases Nat.lt_or_ge a b with h' | h'
    · exact h'
    · have := Nat.div_le_div_right (c := 2 ^ k) h'; omega
  cases hx : x.testBit k <;> cases hy : y.testBit k <;> rw [hx, hy] at hne
  · exact absurd rfl hne
  · have : x < y := hlt (by rw [e1, e2, bit, bit, hx, hy]; simp)
    simp; omega
  · have : y < x := hlt (by rw [e1, e2, bit, bit, hx, hy]; simp)
    simp [this]
  · exact absurd rfl hne
theorem greater_same {x y k : Nat} (h : x / 2 ^ (k + 1) = y / 2 ^ (k + 1)) (he : x.testBit k = y.testBit k) : x / 2 ^ k = y / 2 ^ k := by
  rw [div_succ x k, div_succ y k, h, bit, bit, he]
set_option maxRecDepth 100000 in
set_option maxHeartbeats 1000000 in
theorem greater_any (x y : Nat) (hx : x < 2 ^ 192) (hy : y < 2 ^ 192) : Ans 61 #[.agg (bitsA x), .agg (bitsA y)] (.bool (decide (y < x))) := by
  intro w
  have HX := Lib.hid hx
  have HY := Lib.hid hy
  clear hx hy
  go_enter Try.func61, Try.ntmps61
  go_wp2_with fail
  go_loopw [5] (fun i wr => ∃ k : Nat, k ≤ 192 ∧ i = .int .i64 ((k : Int) - 1) ∧ Hid (x / 2 ^ k = y / 2 ^ k) ∧ ∃ d, wr = World.ext ((w.alloc (.cells (bitsA x) 57)).alloc (.cells (bitsA y) 57)) d) (fun i _ => ((intOf i) + 1).toNat)
  case atStart =>
    refine ⟨192, by omega, rfl, ?_, exts_refl _⟩
    have h1 := Nat.div_eq_of_lt HX.out
    have h2 := Nat.div_eq_of_lt HY.out
    exact Lib.hid (by rw [h1, h2])
  case round =>
    obtain ⟨k, hk, rfl, hdiv, d, rfl⟩ := hrel
    rcases k with _ | k
    · have h := hdiv.out
      rw [Nat.pow_zero, Nat.div_one, Nat.div_one] at h
      subst h
      clear hdiv
      go_wp2_with fail
      go_ret
      exact ⟨by simp, (by repeat (first | exact Ext.refl _ | refine Ext.alloc ?_ _ | refine Ext.ext ?_ _ | refine Ext.drew ?_))⟩
    · have e : (((k + 1 : Nat) : Int) - 1) = (k : Int) := by omega
      rw [e]
      clear e
      have hnx := fun h => greater_same hdiv.out h
      have hhit := fun h => greater_hit hdiv.out h
      have HN := Lib.hid hnx
      have HH := Lib.hid hhit
      clear hnx hhit hdiv
      cases hx : x.testBit k <;> cases hy : y.testBit k
      all_goals
        rw [hx, hy] at HN HH
        go_wp2_with fail
        refine wp_region_ext (by kernel_rfl) (by kernel_rfl) ?_
        repeat (go_big_quiet_step (fail))
        refine wpQuiet_nil ?_
        rintro _ ⟨_, rfl⟩
        go_wp2_with fail
      · go_roundw
        case rel => exact ⟨k, by omega, rfl, Lib.hid (HN.out (by simp)), ext_of (by repeat (first | exact Ext.refl _ | refine Ext.alloc ?_ _ | refine Ext.ext ?_ _ | refine Ext.drew ?_))⟩
        case measure => first | (simp [intOf]; done) | (simp [intOf]; omega)
      · go_ret
        exact ⟨by rw [← HH.out (by simp)]; rfl, (by repeat (first | exact Ext.refl _ | refine Ext.alloc ?_ _ | refine Ext.ext ?_ _ | refine Ext.drew ?_))⟩
      · go_ret
        exact ⟨by rw [← HH.out (by simp)]; rfl, (by repeat (first | exact Ext.refl _ | refine Ext.alloc ?_ _ | refine Ext.ext ?_ _ | refine Ext.drew ?_))⟩
      · go_roundw
        case rel => exact ⟨k, by omega, rfl, Lib.hid (HN.out (by simp)), ext_of (by repeat (first | exact Ext.refl _ | refine Ext.alloc ?_ _ | refine Ext.ext ?_ _ | refine Ext.drew ?_))⟩
        case measure => first | (simp [intOf]; done) | (simp [intOf]; omega)

def sgn (a : Int) : Bool := decide (a < 0)
theorem sgn_neg {a : Int} (h : a < 0) : sgn a = true := decide_eq_true h
theorem sgn_pos {a : Int} (h : 0 ≤ a) : sgn a = false := decide_eq_false (by omega)
theorem not64 (x : Int) (h0 : 0 ≤ x) (h1 : x < 18446744073709551616) : bits .xor .u64 IntKind.u64.max x = 18446744073709551615 - x := by
  have h : bits .xor .u64 IntKind.u64.max x = IntKind.u64.wrap ((BitVec.ofInt 64 IntKind.u64.max ^^^ BitVec.ofInt 64 x).toNat : Int) := rfl
  have hm : BitVec.ofInt 64 IntKind.u64.max = BitVec.allOnes 64 := by decide +kernel
  rw [h, hm, BitVec.allOnes_xor, BitVec.toNat_not, BitVec.toNat_ofInt, IntWalk.u64_in]
  · simp; omega
  · simp; omega
theorem neg64 (a : Int) (h0 : -9223372036854775808 ≤ a) (h : a < 0) : IntKind.u64.wrap (bits .xor .u64 IntKind.u64.max (IntKind.u64.wrap a) + 1) = (a.natAbs : Int) := by
  have e : IntKind.u64.wrap a = a + 18446744073709551616 := by
    simp [IntKind.wrap, IntKind.bits, IntKind.signed]; omega
  rw [e, not64 _ (by omega) (by omega), IntWalk.u64_in _ (by omega)]; omega
theorem pos64 (a : Int) (h0 : 0 ≤ a) (h1 : a ≤ 9223372036854775807) : IntKind.u64.wrap a = (a.natAbs : Int) := by
  rw [IntWalk.u64_in _ (by omega)]; omega
theorem bit64 (m k : Nat) : (bits .and .u64 ((m : Int) / 2 ^ k) 1 == 1) = m.testBit k := by
  have h : bits .and .u64 ((m : Int) / 2 ^ k) 1 = IntKind.u64.wrap ((BitVec.ofInt 64 ((m : Int) / 2 ^ k) &&& BitVec.ofInt 64 1).toNat : Int) := rfl
  have e : ((m : Int) / 2 ^ k) = ((m / 2 ^ k : Nat) : Int) := by simp
  have e2 : (BitVec.ofInt 64 ((m / 2 ^ k : Nat) : Int) &&& BitVec.ofInt 64 1).toNat = m / 2 ^ k % 2 := by
    rw [BitVec.toNat_and]
    have h1 : (BitVec.ofInt 64 1).toNat = 1 := by decide +kernel
    rw [h1, Nat.and_one_is_mod]
    simp
    omega
  rw [h, e, e2, IntWalk.u64_in _ (by omega), testBit_of_bit, bit_div, Bool.eq_iff_iff]
  simp
  omega
theorem of_out {x k : Nat} {v : Bool} {s : Bool} (hk : k < 192) (hv : v = x.testBit k) : (wholeA s (x % 2 ^ k)).setIfInBounds (1 + k) (.bool v) = wholeA s (x % 2 ^ (k + 1)) := by
  subst hv; exact wholeA_set (bitsA_low hk)
set_option maxRecDepth 100000 in
set_option maxHeartbeats 1000000 in
theorem rof_whole (a : Int) (h0 : -9223372036854775808 ≤ a) (h1 : a ≤ 9223372036854775807) : Ans 49 #[.int .i64 a] (.agg (wholeA (sgn a) a.natAbs)) := by
  intro w
  have hm : a.natAbs ≤ 9223372036854775808 := by omega
  have HP := Lib.hid (pos64 a)
  have HN := Lib.hid (neg64 a h0)
  have HSN := Lib.hid (sgn_neg (a := a))
  have HSP := Lib.hid (sgn_pos (a := a))
  generalize a.natAbs = m at *
  generalize hs : sgn a = s at *
  clear hs
  by_cases hneg : a < 0
  · have kd : decide (a < 0) = true := by simpa using hneg
    obtain rfl := HSN.out hneg
    go_enter Try.func49, Try.ntmps49
    go_wp2_with (first | ((with_reducible show wpList _ _ _ (_ :: _) _ _); (with_reducible apply wpl_build0); (· rfl); (· rfl); (simp only [Act.put, List.setIfInBounds_toArray, List.set_cons_zero, List.set_cons_succ])) | ((with_reducible show wpList _ _ _ (_ :: _) _ _); (with_reducible apply wpl_build2); (· rfl); (· rfl); (simp only [Act.put, List.setIfInBounds_toArray, List.set_cons_zero, List.set_cons_succ])) | ((with_reducible show wpList _ _ _ (_ :: _) _ _); (with_reducible apply wpl_build3); (· rfl); (simp only [Act.put, List.setIfInBounds_toArray, List.set_cons_zero, List.set_cons_succ])) | ((with_reducible show wpList _ _ _ (_ :: _) _ _); (with_reducible apply wpl_loadR row192); (· rfl); (· rfl); (· (repeat (first | ((with_reducible refine blk_here ?_); first | with_reducible rfl | (simp only [World.size_alloc, size_ext, World.size_drew]; done)) | with_reducible refine blk_past ?_ | with_reducible refine blk_extS ?_ | with_reducible refine blk_drewS ?_))); (· (simp only [bitsA_size, wholeA_size, Nat.zero_add, Nat.reduceAdd, Nat.le_refl, Nat.reduceLeDiff])); (· (with_reducible first | exact bitsA_ext0 _ | exact wholeA_ext0 _ _ | exact wholeA_ext1 _ _)); (simp only [Act.put, List.setIfInBounds_toArray, List.set_cons_zero, List.set_cons_succ])) | ((with_reducible show wpList _ _ _ (_ :: _) _ _); (with_reducible apply wpl_storeR row192); (· rfl); (· rfl); (· rfl); (· with_reducible exact (bitsA_cells _)); (· (repeat (first | ((with_reducible refine blk_here ?_); first | with_reducible rfl | (simp only [World.size_alloc, size_ext, World.size_drew]; done)) | with_reducible refine blk_past ?_ | with_reducible refine blk_extS ?_ | with_reducible refine blk_drewS ?_))); (· (simp only [bitsA_size, wholeA_size, Nat.zero_add, Nat.reduceAdd, Nat.le_refl, Nat.reduceLeDiff])); (· (with_reducible first | exact bitsA_splice _ _ | exact wholeA_splice0 _ _ _ _ | exact wholeA_splice1 _ _ _)); (· (repeat (first | ((with_reducible apply SetTo.here); first | with_reducible rfl | (simp only [World.size_alloc, size_ext, World.size_drew]; done)) | with_reducible apply SetTo.past | with_reducible apply SetTo.ext | with_reducible apply SetTo.drew))); (simp only [Act.put, List.setIfInBounds_toArray, List.set_cons_zero, List.set_cons_succ])) | ((with_reducible show wpList _ _ _ (_ :: _) _ _); (with_reducible apply wpl_allocR row192); (· rfl); (simp only [Act.put, List.setIfInBounds_toArray, List.set_cons_zero, List.set_cons_succ, World.size_alloc, size_ext, World.size_drew])) | ((with_reducible apply ret_rowR row192); (· rfl); (· rfl); (· rfl); (· (repeat (first | ((with_reducible refine blk_here ?_); first | with_reducible rfl | (simp only [World.size_alloc, size_ext, World.size_drew]; done)) | with_reducible refine blk_past ?_ | with_reducible refine blk_extS ?_ | with_reducible refine blk_drewS ?_))); (· (simp only [bitsA_size, wholeA_size, Nat.zero_add, Nat.reduceAdd, Nat.le_refl, Nat.reduceLeDiff])); (exact ⟨rfl, (by repeat (first | exact Ext.refl _ | refine Ext.alloc ?_ _ | refine Ext.ext ?_ _ | refine Ext.drew ?_))⟩)) | ((with_reducible show wpList _ _ _ (_ :: _) _ _); (with_reducible apply wpl_loadR row193); (· rfl); (· rfl); (· (repeat (first | ((with_reducible refine blk_here ?_); first | with_reducible rfl | (simp only [World.size_alloc, size_ext, World.size_drew]; done)) | with_reducible refine blk_past ?_ | with_reducible refine blk_extS ?_ | with_reducible refine blk_drewS ?_))); (· (simp only [bitsA_size, wholeA_size, Nat.zero_add, Nat.reduceAdd, Nat.le_refl, Nat.reduceLeDiff])); (· (with_reducible first | exact bitsA_ext0 _ | exact wholeA_ext0 _ _ | exact wholeA_ext1 _ _)); (simp only [Act.put, List.setIfInBounds_toArray, List.set_cons_zero, List.set_cons_succ])) | ((with_reducible show wpList _ _ _ (_ :: _) _ _); (with_reducible apply wpl_storeR row193); (· rfl); (· rfl); (· rfl); (· with_reducible exact (wholeA_cells _ _)); (· (repeat (first | ((with_reducible refine blk_here ?_); first | with_reducible rfl | (simp only [World.size_alloc, size_ext, World.size_drew]; done)) | with_reducible refine blk_past ?_ | with_reducible refine blk_extS ?_ | with_reducible refine blk_drewS ?_))); (· (simp only [bitsA_size, wholeA_size, Nat.zero_add, Nat.reduceAdd, Nat.le_refl, Nat.reduceLeDiff])); (· (with_reducible first | exact bitsA_splice _ _ | exact wholeA_splice0 _ _ _ _ | exact wholeA_splice1 _ _ _)); (· (repeat (first | ((with_reducible apply SetTo.here); first | with_reducible rfl | (simp only [World.size_alloc, size_ext, World.size_drew]; done)) | with_reducible apply SetTo.past | with_reducible apply SetTo.ext | with_reducible apply SetTo.drew))); (simp only [Act.put, List.setIfInBounds_toArray, List.set_cons_zero, List.set_cons_succ])) | ((with_reducible show wpList _ _ _ (_ :: _) _ _); (with_reducible apply wpl_allocR row193); (· rfl); (simp only [Act.put, List.setIfInBounds_toArray, List.set_cons_zero, List.set_cons_succ, World.size_alloc, size_ext, World.size_drew])) | ((with_reducible apply ret_rowR row193); (· rfl); (· rfl); (· rfl); (· (repeat (first | ((with_reducible refine blk_here ?_); first | with_reducible rfl | (simp only [World.size_alloc, size_ext, World.size_drew]; done)) | with_reducible refine blk_past ?_ | with_reducible refine blk_extS ?_ | with_reducible refine blk_drewS ?_))); (· (simp only [bitsA_size, wholeA_size, Nat.zero_add, Nat.reduceAdd, Nat.le_refl, Nat.reduceLeDiff])); (exact ⟨rfl, (by repeat (first | exact Ext.refl _ | refine Ext.alloc ?_ _ | refine Ext.ext ?_ _ | refine Ext.drew ?_))⟩)))
    rw [HN.out hneg]
    clear HN HP HSP HSN
    go_loopw [5] (fun i wr => ∃ k : Nat, k ≤ 64 ∧ i = .int .i64 k ∧ wr = (w.alloc (.cells (wholeA false 0) 59)).alloc (.cells (wholeA true (m % 2 ^ k)) 59)) (fun i _ => 64 - (intOf i).toNat)
    case atStart => exact ⟨0, by omega, rfl, by rw [Nat.pow_zero, Nat.mod_one]⟩
    case round =>
      obtain ⟨k, hk, rfl, rfl⟩ := hrel
      by_cases hlt : k < 64
      · go_wp2_with fail
        go_roundw
        case rel => exact ⟨k + 1, by omega, by go_num, by rw [of_out (by omega) (bit64 m k)]⟩
        case measure => simp [intOf]; omega
      · obtain rfl : k = 64 := by omega
        rw [Nat.mod_eq_of_lt (show m < 2 ^ 64 by omega)]
        go_wp2_with (first | ((with_reducible show wpList _ _ _ (_ :: _) _ _); (with_reducible apply wpl_build0); (· rfl); (· rfl); (simp only [Act.put, List.setIfInBounds_toArray, List.set_cons_zero, List.set_cons_succ])) | ((with_reducible show wpList _ _ _ (_ :: _) _ _); (with_reducible apply wpl_build2); (· rfl); (· rfl); (simp only [Act.put, List.setIfInBounds_toArray, List.set_cons_zero, List.set_cons_succ])) | ((with_reducible show wpList _ _ _ (_ :: _) _ _); (with_reducible apply wpl_build3); (· rfl); (simp only [Act.put, List.setIfInBounds_toArray, List.set_cons_zero, List.set_cons_succ])) | ((with_reducible show wpList _ _ _ (_ :: _) _ _); (with_reducible apply wpl_loadR row192); (· rfl); (· rfl); (· (repeat (first | ((with_reducible refine blk_here ?_); first | with_reducible rfl | (simp only [World.size_alloc, size_ext, World.size_drew]; done)) | with_reducible refine blk_past ?_ | with_reducible refine blk_extS ?_ | with_reducible refine blk_drewS ?_))); (· (simp only [bitsA_size, wholeA_size, Nat.zero_add, Nat.reduceAdd, Nat.le_refl, Nat.reduceLeDiff])); (· (with_reducible first | exact bitsA_ext0 _ | exact wholeA_ext0 _ _ | exact wholeA_ext1 _ _)); (simp only [Act.put, List.setIfInBounds_toArray, List.set_cons_zero, List.set_cons_succ])) | ((with_reducible show wpList _ _ _ (_ :: _) _ _); (with_reducible apply wpl_storeR row192); (· rfl); (· rfl); (· rfl); (· with_reducible exact (bitsA_cells _)); (· (repeat (first | ((with_reducible refine blk_here ?_); first | with_reducible rfl | (simp only [World.size_alloc, size_ext, World.size_drew]; done)) | with_reducible refine blk_past ?_ | with_reducible refine blk_extS ?_ | with_reducible refine blk_drewS ?_))); (· (simp only [bitsA_size, wholeA_size, Nat.zero_add, Nat.reduceAdd, Nat.le_refl, Nat.reduceLeDiff])); (· (with_reducible first | exact bitsA_splice _ _ | exact wholeA_splice0 _ _ _ _ | exact wholeA_splice1 _ _ _)); (· (repeat (first | ((with_reducible apply SetTo.here); first | with_reducible rfl | (simp only [World.size_alloc, size_ext, World.size_drew]; done)) | with_reducible apply SetTo.past | with_reducible apply SetTo.ext | with_reducible apply SetTo.drew))); (simp only [Act.put, List.setIfInBounds_toArray, List.set_cons_zero, List.set_cons_succ])) | ((with_reducible show wpList _ _ _ (_ :: _) _ _); (with_reducible apply wpl_allocR row192); (· rfl); (simp only [Act.put, List.setIfInBounds_toArray, List.set_cons_zero, List.set_cons_succ, World.size_alloc, size_ext, World.size_drew])) | ((with_reducible apply ret_rowR row192); (· rfl); (· rfl); (· rfl); (· (repeat (first | ((with_reducible refine blk_here ?_); first | with_reducible rfl | (simp only [World.size_alloc, size_ext, World.size_drew]; done)) | with_reducible refine blk_past ?_ | with_reducible refine blk_extS ?_ | with_reducible refine blk_drewS ?_))); (· (simp only [bitsA_size, wholeA_size, Nat.zero_add, Nat.reduceAdd, Nat.le_refl, Nat.reduceLeDiff])); (exact ⟨rfl, (by repeat (first | exact Ext.refl _ | refine Ext.alloc ?_ _ | refine Ext.ext ?_ _ | refine Ext.drew ?_))⟩)) | ((with_reducible show wpList _ _ _ (_ :: _) _ _); (with_reducible apply wpl_loadR row193); (· rfl); (· rfl); (· (repeat (first | ((with_reducible refine blk_here ?_); first | with_reducible rfl | (simp only [World.size_alloc, size_ext, World.size_drew]; done)) | with_reducible refine blk_past ?_ | with_reducible refine blk_extS ?_ | with_reducible refine blk_drewS ?_))); (· (simp only [bitsA_size, wholeA_size, Nat.zero_add, Nat.reduceAdd, Nat.le_refl, Nat.reduceLeDiff])); (· (with_reducible first | exact bitsA_ext0 _ | exact wholeA_ext0 _ _ | exact wholeA_ext1 _ _)); (simp only [Act.put, List.setIfInBounds_toArray, List.set_cons_zero, List.set_cons_succ])) | ((with_reducible show wpList _ _ _ (_ :: _) _ _); (with_reducible apply wpl_storeR row193); (· rfl); (· rfl); (· rfl); (· with_reducible exact (wholeA_cells _ _)); (· (repeat (first | ((with_reducible refine blk_here ?_); first | with_reducible rfl | (simp only [World.size_alloc, size_ext, World.size_drew]; done)) | with_reducible refine blk_past ?_ | with_reducible refine blk_extS ?_ | with_reducible refine blk_drewS ?_))); (· (simp only [bitsA_size, wholeA_size, Nat.zero_add, Nat.reduceAdd, Nat.le_refl, Nat.reduceLeDiff])); (· (with_reducible first | exact bitsA_splice _ _ | exact wholeA_splice0 _ _ _ _ | exact wholeA_splice1 _ _ _)); (· (repeat (first | ((with_reducible apply SetTo.here); first | with_reducible rfl | (simp only [World.size_alloc, size_ext, World.size_drew]; done)) | with_reducible apply SetTo.past | with_reducible apply SetTo.ext | with_reducible apply SetTo.drew))); (simp only [Act.put, List.setIfInBounds_toArray, List.set_cons_zero, List.set_cons_succ])) | ((with_reducible show wpList _ _ _ (_ :: _) _ _); (with_reducible apply wpl_allocR row193); (· rfl); (simp only [Act.put, List.setIfInBounds_toArray, List.set_cons_zero, List.set_cons_succ, World.size_alloc, size_ext, World.size_drew])) | ((with_reducible apply ret_rowR row193); (· rfl); (· rfl); (· rfl); (· (repeat (first | ((with_reducible refine blk_here ?_); first | with_reducible rfl | (simp only [World.size_alloc, size_ext, World.size_drew]; done)) | with_reducible refine blk_past ?_ | with_reducible refine blk_extS ?_ | with_reducible refine blk_drewS ?_))); (· (simp only [bitsA_size, wholeA_size, Nat.zero_add, Nat.reduceAdd, Nat.le_refl, Nat.reduceLeDiff])); (exact ⟨rfl, (by repeat (first | exact Ext.refl _ | refine Ext.alloc ?_ _ | refine Ext.ext ?_ _ | refine Ext.drew ?_))⟩)))
  · have kd : decide (a < 0) = false := by simpa using hneg
    obtain rfl := HSP.out (by omega)
    have e : a = (m : Int) := by
      have h := HP.out (by omega) h1
      rwa [IntWalk.u64_in _ (by omega)] at h
    clear HN HP HSP HSN
    subst e
    go_enter Try.func49, Try.ntmps49
    go_wp2_with (first | ((with_reducible show wpList _ _ _ (_ :: _) _ _); (with_reducible apply wpl_build0); (· rfl); (· rfl); (simp only [Act.put, List.setIfInBounds_toArray, List.set_cons_zero, List.set_cons_succ])) | ((with_reducible show wpList _ _ _ (_ :: _) _ _); (with_reducible apply wpl_build2); (· rfl); (· rfl); (simp only [Act.put, List.setIfInBounds_toArray, List.set_cons_zero, List.set_cons_succ])) | ((with_reducible show wpList _ _ _ (_ :: _) _ _); (with_reducible apply wpl_build3); (· rfl); (simp only [Act.put, List.setIfInBounds_toArray, List.set_cons_zero, List.set_cons_succ])) | ((with_reducible show wpList _ _ _ (_ :: _) _ _); (with_reducible apply wpl_loadR row192); (· rfl); (· rfl); (· (repeat (first | ((with_reducible refine blk_here ?_); first | with_reducible rfl | (simp only [World.size_alloc, size_ext, World.size_drew]; done)) | with_reducible refine blk_past ?_ | with_reducible refine blk_extS ?_ | with_reducible refine blk_drewS ?_))); (· (simp only [bitsA_size, wholeA_size, Nat.zero_add, Nat.reduceAdd, Nat.le_refl, Nat.reduceLeDiff])); (· (with_reducible first | exact bitsA_ext0 _ | exact wholeA_ext0 _ _ | exact wholeA_ext1 _ _)); (simp only [Act.put, List.setIfInBounds_toArray, List.set_cons_zero, List.set_cons_succ])) | ((with_reducible show wpList _ _ _ (_ :: _) _ _); (with_reducible apply wpl_storeR row192); (· rfl); (· rfl); (· rfl); (· with_reducible exact (bitsA_cells _)); (· (repeat (first | ((with_reducible refine blk_here ?_); first | with_reducible rfl | (simp only [World.size_alloc, size_ext, World.size_drew]; done)) | with_reducible refine blk_past ?_ | with_reducible refine blk_extS ?_ | with_reducible refine blk_drewS ?_))); (· (simp only [bitsA_size, wholeA_size, Nat.zero_add, Nat.reduceAdd, Nat.le_refl, Nat.reduceLeDiff])); (· (with_reducible first | exact bitsA_splice _ _ | exact wholeA_splice0 _ _ _ _ | exact wholeA_splice1 _ _ _)); (· (repeat (first | ((with_reducible apply SetTo.here); first | with_reducible rfl | (simp only [World.size_alloc, size_ext, World.size_drew]; done)) | with_reducible apply SetTo.past | with_reducible apply SetTo.ext | with_reducible apply SetTo.drew))); (simp only [Act.put, List.setIfInBounds_toArray, List.set_cons_zero, List.set_cons_succ])) | ((with_reducible show wpList _ _ _ (_ :: _) _ _); (with_reducible apply wpl_allocR row192); (· rfl); (simp only [Act.put, List.setIfInBounds_toArray, List.set_cons_zero, List.set_cons_succ, World.size_alloc, size_ext, World.size_drew])) | ((with_reducible apply ret_rowR row192); (· rfl); (· rfl); (· rfl); (· (repeat (first | ((with_reducible refine blk_here ?_); first | with_reducible rfl | (simp only [World.size_alloc, size_ext, World.size_drew]; done)) | with_reducible refine blk_past ?_ | with_reducible refine blk_extS ?_ | with_reducible refine blk_drewS ?_))); (· (simp only [bitsA_size, wholeA_size, Nat.zero_add, Nat.reduceAdd, Nat.le_refl, Nat.reduceLeDiff])); (exact ⟨rfl, (by repeat (first | exact Ext.refl _ | refine Ext.alloc ?_ _ | refine Ext.ext ?_ _ | refine Ext.drew ?_))⟩)) | ((with_reducible show wpList _ _ _ (_ :: _) _ _); (with_reducible apply wpl_loadR row193); (· rfl); (· rfl); (· (repeat (first | ((with_reducible refine blk_here ?_); first | with_reducible rfl | (simp only [World.size_alloc, size_ext, World.size_drew]; done)) | with_reducible refine blk_past ?_ | with_reducible refine blk_extS ?_ | with_reducible refine blk_drewS ?_))); (· (simp only [bitsA_size, wholeA_size, Nat.zero_add, Nat.reduceAdd, Nat.le_refl, Nat.reduceLeDiff])); (· (with_reducible first | exact bitsA_ext0 _ | exact wholeA_ext0 _ _ | exact wholeA_ext1 _ _)); (simp only [Act.put, List.setIfInBounds_toArray, List.set_cons_zero, List.set_cons_succ])) | ((with_reducible show wpList _ _ _ (_ :: _) _ _); (with_reducible apply wpl_storeR row193); (· rfl); (· rfl); (· rfl); (· with_reducible exact (wholeA_cells _ _)); (· (repeat (first | ((with_reducible refine blk_here ?_); first | with_reducible rfl | (simp only [World.size_alloc, size_ext, World.size_drew]; done)) | with_reducible refine blk_past ?_ | with_reducible refine blk_extS ?_ | with_reducible refine blk_drewS ?_))); (· (simp only [bitsA_size, wholeA_size, Nat.zero_add, Nat.reduceAdd, Nat.le_refl, Nat.reduceLeDiff])); (· (with_reducible first | exact bitsA_splice _ _ | exact wholeA_splice0 _ _ _ _ | exact wholeA_splice1 _ _ _)); (· (repeat (first | ((with_reducible apply SetTo.here); first | with_reducible rfl | (simp only [World.size_alloc, size_ext, World.size_drew]; done)) | with_reducible apply SetTo.past | with_reducible apply SetTo.ext | with_reducible apply SetTo.drew))); (simp only [Act.put, List.setIfInBounds_toArray, List.set_cons_zero, List.set_cons_succ])) | ((with_reducible show wpList _ _ _ (_ :: _) _ _); (with_reducible apply wpl_allocR row193); (· rfl); (simp only [Act.put, List.setIfInBounds_toArray, List.set_cons_zero, List.set_cons_succ, World.size_alloc, size_ext, World.size_drew])) | ((with_reducible apply ret_rowR row193); (· rfl); (· rfl); (· rfl); (· (repeat (first | ((with_reducible refine blk_here ?_); first | with_reducible rfl | (simp only [World.size_alloc, size_ext, World.size_drew]; done)) | with_reducible refine blk_past ?_ | with_reducible refine blk_extS ?_ | with_reducible refine blk_drewS ?_))); (· (simp only [bitsA_size, wholeA_size, Nat.zero_add, Nat.reduceAdd, Nat.le_refl, Nat.reduceLeDiff])); (exact ⟨rfl, (by repeat (first | exact Ext.refl _ | refine Ext.alloc ?_ _ | refine Ext.ext ?_ _ | refine Ext.drew ?_))⟩)))
    go_loopw [5] (fun i wr => ∃ k : Nat, k ≤ 64 ∧ i = .int .i64 k ∧ wr = (w.alloc (.cells (wholeA false 0) 59)).alloc (.cells (wholeA false (m % 2 ^ k)) 59)) (fun i _ => 64 - (intOf i).toNat)
    case atStart => exact ⟨0, by omega, rfl, by rw [Nat.pow_zero, Nat.mod_one]⟩
    case round =>
      obtain ⟨k, hk, rfl, rfl⟩ := hrel
      by_cases hlt : k < 64
      · go_wp2_with fail
        go_roundw
        case rel => exact ⟨k + 1, by omega, by go_num, by rw [of_out (by omega) (bit64 m k)]⟩
        case measure => simp [intOf]; omega
      · obtain rfl : k = 64 := by omega
        rw [Nat.mod_eq_of_lt (show m < 2 ^ 64 by omega)]
        go_wp2_with (first | ((with_reducible show wpList _ _ _ (_ :: _) _ _); (with_reducible apply wpl_build0); (· rfl); (· rfl); (simp only [Act.put, List.setIfInBounds_toArray, List.set_cons_zero, List.set_cons_succ])) | ((with_reducible show wpList _ _ _ (_ :: _) _ _); (with_reducible apply wpl_build2); (· rfl); (· rfl); (simp only [Act.put, List.setIfInBounds_toArray, List.set_cons_zero, List.set_cons_succ])) | ((with_reducible show wpList _ _ _ (_ :: _) _ _); (with_reducible apply wpl_build3); (· rfl); (simp only [Act.put, List.setIfInBounds_toArray, List.set_cons_zero, List.set_cons_succ])) | ((with_reducible show wpList _ _ _ (_ :: _) _ _); (with_reducible apply wpl_loadR row192); (· rfl); (· rfl); (· (repeat (first | ((with_reducible refine blk_here ?_); first | with_reducible rfl | (simp only [World.size_alloc, size_ext, World.size_drew]; done)) | with_reducible refine blk_past ?_ | with_reducible refine blk_extS ?_ | with_reducible refine blk_drewS ?_))); (· (simp only [bitsA_size, wholeA_size, Nat.zero_add, Nat.reduceAdd, Nat.le_refl, Nat.reduceLeDiff])); (· (with_reducible first | exact bitsA_ext0 _ | exact wholeA_ext0 _ _ | exact wholeA_ext1 _ _)); (simp only [Act.put, List.setIfInBounds_toArray, List.set_cons_zero, List.set_cons_succ])) | ((with_reducible show wpList _ _ _ (_ :: _) _ _); (with_reducible apply wpl_storeR row192); (· rfl); (· rfl); (· rfl); (· with_reducible exact (bitsA_cells _)); (· (repeat (first | ((with_reducible refine blk_here ?_); first | with_reducible rfl | (simp only [World.size_alloc, size_ext, World.size_drew]; done)) | with_reducible refine blk_past ?_ | with_reducible refine blk_extS ?_ | with_reducible refine blk_drewS ?_))); (· (simp only [bitsA_size, wholeA_size, Nat.zero_add, Nat.reduceAdd, Nat.le_refl, Nat.reduceLeDiff])); (· (with_reducible first | exact bitsA_splice _ _ | exact wholeA_splice0 _ _ _ _ | exact wholeA_splice1 _ _ _)); (· (repeat (first | ((with_reducible apply SetTo.here); first | with_reducible rfl | (simp only [World.size_alloc, size_ext, World.size_drew]; done)) | with_reducible apply SetTo.past | with_reducible apply SetTo.ext | with_reducible apply SetTo.drew))); (simp only [Act.put, List.setIfInBounds_toArray, List.set_cons_zero, List.set_cons_succ])) | ((with_reducible show wpList _ _ _ (_ :: _) _ _); (with_reducible apply wpl_allocR row192); (· rfl); (simp only [Act.put, List.setIfInBounds_toArray, List.set_cons_zero, List.set_cons_succ, World.size_alloc, size_ext, World.size_drew])) | ((with_reducible apply ret_rowR row192); (· rfl); (· rfl); (· rfl); (· (repeat (first | ((with_reducible refine blk_here ?_); first | with_reducible rfl | (simp only [World.size_alloc, size_ext, World.size_drew]; done)) | with_reducible refine blk_past ?_ | with_reducible refine blk_extS ?_ | with_reducible refine blk_drewS ?_))); (· (simp only [bitsA_size, wholeA_size, Nat.zero_add, Nat.reduceAdd, Nat.le_refl, Nat.reduceLeDiff])); (exact ⟨rfl, (by repeat (first | exact Ext.refl _ | refine Ext.alloc ?_ _ | refine Ext.ext ?_ _ | refine Ext.drew ?_))⟩)) | ((with_reducible show wpList _ _ _ (_ :: _) _ _); (with_reducible apply wpl_loadR row193); (· rfl); (· rfl); (· (repeat (first | ((with_reducible refine blk_here ?_); first | with_reducible rfl | (simp only [World.size_alloc, size_ext, World.size_drew]; done)) | with_reducible refine blk_past ?_ | with_reducible refine blk_extS ?_ | with_reducible refine blk_drewS ?_))); (· (simp only [bitsA_size, wholeA_size, Nat.zero_add, Nat.reduceAdd, Nat.le_refl, Nat.reduceLeDiff])); (· (with_reducible first | exact bitsA_ext0 _ | exact wholeA_ext0 _ _ | exact wholeA_ext1 _ _)); (simp only [Act.put, List.setIfInBounds_toArray, List.set_cons_zero, List.set_cons_succ])) | ((with_reducible show wpList _ _ _ (_ :: _) _ _); (with_reducible apply wpl_storeR row193); (· rfl); (· rfl); (· rfl); (· with_reducible exact (wholeA_cells _ _)); (· (repeat (first | ((with_reducible refine blk_here ?_); first | with_reducible rfl | (simp only [World.size_alloc, size_ext, World.size_drew]; done)) | with_reducible refine blk_past ?_ | with_reducible refine blk_extS ?_ | with_reducible refine blk_drewS ?_))); (· (simp only [bitsA_size, wholeA_size, Nat.zero_add, Nat.reduceAdd, Nat.le_refl, Nat.reduceLeDiff])); (· (with_reducible first | exact bitsA_splice _ _ | exact wholeA_splice0 _ _ _ _ | exact wholeA_splice1 _ _ _)); (· (repeat (first | ((with_reducible apply SetTo.here); first | with_reducible rfl | (simp only [World.size_alloc, size_ext, World.size_drew]; done)) | with_reducible apply SetTo.past | with_reducible apply SetTo.ext | with_reducible apply SetTo.drew))); (simp only [Act.put, List.setIfInBounds_toArray, List.set_cons_zero, List.set_cons_succ])) | ((with_reducible show wpList _ _ _ (_ :: _) _ _); (with_reducible apply wpl_allocR row193); (· rfl); (simp only [Act.put, List.setIfInBounds_toArray, List.set_cons_zero, List.set_cons_succ, World.size_alloc, size_ext, World.size_drew])) | ((with_reducible apply ret_rowR row193); (· rfl); (· rfl); (· rfl); (· (repeat (first | ((with_reducible refine blk_here ?_); first | with_reducible rfl | (simp only [World.size_alloc, size_ext, World.size_drew]; done)) | with_reducible refine blk_past ?_ | with_reducible refine blk_extS ?_ | with_reducible refine blk_drewS ?_))); (· (simp only [bitsA_size, wholeA_size, Nat.zero_add, Nat.reduceAdd, Nat.le_refl, Nat.reduceLeDiff])); (exact ⟨rfl, (by repeat (first | exact Ext.refl _ | refine Ext.alloc ?_ _ | refine Ext.ext ?_ _ | refine Ext.drew ?_))⟩)))
end Go.Proofs.Ytfbipghjhngncaa
