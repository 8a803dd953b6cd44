/- Part 7 of what ProofBooksPlay stands on: RefB. -/
import Derived.Test.YtacglcpjbepfnaaBksPPart6
import Derived.WalkKit
import Derived.WalkSpells
import Derived.Handy
import Derived.Outline
import Derived.Lib.Hide
import Derived.Deep.QuietTactic
import Derived.BigQuiet
import Derived.WalkSmall
import Derived.Deep.CutBlock
import Derived.Deep.DeepCutAuto
import Derived.Laws.Bits64
import Derived.Laws.Bits64b
import Derived.Lib.ItoaNum
import Derived.Shelf.Spec.BitsCarry
import Derived.OwnWalk
import Derived.OrdersHeld
import Derived.Lib.SmallJoins
import Derived.Laws.Rows
import Derived.Scope
import Derived.ScopeJumps
import Derived.WalkMore
import Derived.Laws.StructEq
import Derived.Deep.RegionWith
import Derived.Deep.RegionHeld3
/- What books need of countinghouseref02: May, Compare. (Printed by gen/refb.py out of the texts of seat d.) -/
/-! Bit192 -/
/- Numbers as rows of 192 bits: what adding, taking off, shifting and dividing bit by bit come to. -/
namespace Go.Proofs.Ytacglcpjbepfnaa
open Go.RowKit

def bitsA (x : Nat) : Array Value := Array.ofFn (n := 192) fun i => Value.bool (x.testBit i)
theorem bitsA_size (x : Nat) : (bitsA x).size = 192 := by unfold bitsA; simp
theorem bitsA_get (x i : Nat) : (bitsA x)[i]? = if i < 192 then some (.bool (x.testBit i)) else none := by
  unfold bitsA; rw [Array.getElem?_ofFn]; split <;> rfl
theorem bitsA_cells (x : Nat) : Cells 192 (bitsA x) := by
  refine ⟨bitsA_size x, ?_⟩
  unfold bitsA
  rw [Array.all_eq_true]
  intro i hi
  simp [Value.oneCell']
theorem bitsA_congr {x y : Nat} (h : ∀ i, i < 192 → x.testBit i = y.testBit i) : bitsA x = bitsA y := by
  apply Array.ext_getElem?
  intro i
  rw [bitsA_get, bitsA_get]
  split
  · rename_i hi; rw [h i hi]
  · rfl
theorem bitsA_set {x y k : Nat} {b : Bool} (hk : k < 192) (hb : y.testBit k = b) (h : ∀ i, i ≠ k → y.testBit i = x.testBit i) : (bitsA x).setIfInBounds k (.bool b) = bitsA y := by
  apply Array.ext_getElem?
  intro i
  rw [Array.getElem?_setIfInBounds, bitsA_get, bitsA_get, bitsA_size]
  by_cases e : k = i
  · subst e; rw [if_pos rfl, if_pos hk, if_pos hk, hb]
  · rw [if_neg e]
    split
    · rw [h i (fun e' => e e'.symm)]
    · rfl
/-- One bit more of s, from below. -/
theorem bitsA_low {s k : Nat} (hk : k < 192) : (bitsA (s % 2 ^ k)).setIfInBounds k (.bool (s.testBit k)) = bitsA (s % 2 ^ (k + 1)) := by
  refine bitsA_set hk ?_ fun i hi => ?_
  · rw [Nat.testBit_mod_two_pow]; simp
  · rw [Nat.testBit_mod_two_pow, Nat.testBit_mod_two_pow]
    by_cases h : i < k
    · simp [h]; omega
    · simp [h]; omega
theorem bitsA_mod (s : Nat) : bitsA (s % 2 ^ 192) = bitsA s := bitsA_congr fun i hi => by rw [Nat.testBit_mod_two_pow]; simp [hi]
theorem bitsA_ext0 (x : Nat) : (bitsA x).extract 0 (0 + 192) = bitsA x := by
  rw [Array.extract_eq_self_of_le (by rw [bitsA_size]; omega)]
theorem bitsA_splice (x y : Nat) : splice (bitsA x) 0 (bitsA y) = bitsA y := splice_all (by rw [bitsA_size, bitsA_size])
/-- A sign, and bits. -/
def wholeA (s : Bool) (x : Nat) : Array Value := #[.bool s] ++ bitsA x
theorem wholeA_size (s : Bool) (x : Nat) : (wholeA s x).size = 193 := by unfold wholeA; simp [bitsA_size]
theorem wholeA_get (s : Bool) (x i : Nat) : (wholeA s x)[i]? = if i = 0 then some (.bool s) else if i - 1 < 192 then some (.bool (x.testBit (i - 1))) else none := by
  unfold wholeA
  rcases i with _ | i
  · rw [Array.getElem?_append_left (by simp)]; simp
  · rw [Array.getElem?_append_right (by simp)]; simp [bitsA_get]
theorem wholeA_cells (s : Bool) (x : Nat) : Cells 193 (wholeA s x) := by
  refine ⟨wholeA_size s x, ?_⟩
  unfold wholeA
  rw [Array.all_append, (bitsA_cells x).2]; simp [Value.oneCell']
theorem wholeA_ext0 (s : Bool) (x : Nat) : (wholeA s x).extract 0 (0 + 193) = wholeA s x := by
  rw [Array.extract_eq_self_of_le (by rw [wholeA_size]; omega)]
theorem wholeA_ext1 (s : Bool) (x : Nat) : (wholeA s x).extract 1 (1 + 192) = bitsA x := by
  unfold wholeA
  apply Array.ext_getElem?
  intro i
  rw [Array.getElem?_extract, bitsA_get]
  by_cases h : i < 192
  · rw [if_pos (by simp [bitsA_size]; omega), if_pos h, Array.getElem?_append_right (by simp)]
    simp [bitsA_get, h]
  · rw [if_neg (by simp [bitsA_size]; omega), if_neg h]
theorem wholeA_splice0 (s s' : Bool) (x y : Nat) : splice (wholeA s x) 0 (wholeA s' y) = wholeA s' y := splice_all (by rw [wholeA_size, wholeA_size])
theorem wholeA_splice1 (s : Bool) (x y : Nat) : splice (wholeA s x) 1 (bitsA y) = wholeA s y := by
  unfold splice wholeA
  apply Array.ext'
  simp [bitsA_size]
theorem wholeA_set {s : Bool} {x y k : Nat} {b : Bool} (h : (bitsA x).setIfInBounds k (.bool b) = bitsA y) : (wholeA s x).setIfInBounds (1 + k) (.bool b) = wholeA s y := by
  unfold wholeA
  rw [← h]
  apply Array.ext'
  simp [Nat.add_comm 1 k]

def bit (x k : Nat) : Nat := (x.testBit k).toNat
theorem bit_div (x k : Nat) : bit x k = x / 2 ^ k % 2 := by
  unfold bit; rw [Nat.testBit_eq_decide_div_mod_eq]
  have : x / 2 ^ k % 2 < 2 := Nat.mod_lt _ (by omega)
  by_cases h : x / 2 ^ k % 2 = 1
  · simp [h]
  · have : x / 2 ^ k % 2 = 0 := by omega
    simp [this]
theorem testBit_of_bit (x k : Nat) : x.testBit k = decide (bit x k = 1) := by
  unfold bit; cases x.testBit k <;> simp
theorem mod_succ (x k : Nat) : x % 2 ^ (k + 1) = x % 2 ^ k + 2 ^ k * bit x k := by rw [bit_div, Nat.pow_succ, Nat.mod_mul]

/-- What is carried ahead of place k. -/
def carry (x y k : Nat) : Nat := (x % 2 ^ k + y % 2 ^ k) / 2 ^ k
theorem carry_zero (x y : Nat) : carry x y 0 = 0 := by unfold carry; simp [Nat.mod_one]
theorem carry_le (x y k : Nat) : carry x y k ≤ 1 := by
  unfold carry
  have h := Nat.two_pow_pos k
  have h1 := Nat.mod_lt x h
  have h2 := Nat.mod_lt y h
  have : (x % 2 ^ k + y % 2 ^ k) / 2 ^ k < 2 := by rw [Nat.div_lt_iff_lt_mul h]; omega
  omega
theorem carry_succ (x y k : Nat) : carry x y (k + 1) = (carry x y k + bit x k + bit y k) / 2 := by
  unfold carry
  have h := Nat.two_pow_pos k
  rw [mod_succ, mod_succ, Nat.pow_succ, ← Nat.div_div_eq_div_mul, show x % 2 ^ k + 2 ^ k * bit x k + (y % 2 ^ k + 2 ^ k * bit y k) = x % 2 ^ k + y % 2 ^ k + 2 ^ k * (bit x k + bit y k) by rw [Nat.mul_add]; omega, Nat.add_mul_div_left _ _ h]
  omega
theorem bit_add (x y k : Nat) : bit (x + y) k = (carry x y k + bit x k + bit y k) % 2 := by
  rw [bit_div, bit_div, bit_div]
  unfold carry
  have h := Nat.two_pow_pos k
  have h1 := Nat.div_add_mod x (2 ^ k)
  have h2 := Nat.div_add_mod y (2 ^ k)
  have e : x + y = x % 2 ^ k + y % 2 ^ k + 2 ^ k * (x / 2 ^ k + y / 2 ^ k) := by rw [Nat.mul_add]; omega
  have e2 : (x + y) / 2 ^ k = (x % 2 ^ k + y % 2 ^ k) / 2 ^ k + (x / 2 ^ k + y / 2 ^ k) := by
    conv => lhs; rw [e]
    exact Nat.add_mul_div_left _ _ h
  rw [e2]; omega

/-- Numbers with the same bits from k + 1 on. -/
theorem div_succ (x k : Nat) : x / 2 ^ k = 2 * (x / 2 ^ (k + 1)) + bit x k := by
  rw [bit_div, Nat.pow_succ, ← Nat.div_div_eq_div_mul]; omega
end Go.Proofs.Ytacglcpjbepfnaa

/-! Ref01a -/
/- countinghouseref01 over rows of 192 bits. -/
namespace Go.Proofs.Ytacglcpjbepfnaa
open Go.RowKit
set_option linter.unusedSimpArgs false
set_option linter.unusedVariables false

theorem row192 : RowTy 174 192 (bitsA 0) := by
  refine ⟨⟨_, Try.underlying174, rfl⟩, by kernel_rfl, ?_⟩
  have h : bitsA 0 = Array.replicate 192 (.bool false) := by
    apply Array.ext_getElem?
    intro i
    rw [bitsA_get, Array.getElem?_replicate]
    simp
  rw [h]
  show (Try.prog.info? 174).bind (·.zero) = some (.agg (Array.replicate 192 (.bool false)))
  kernel_rfl
theorem row193 : RowTy 176 193 (wholeA false 0) := by
  refine ⟨⟨_, Try.underlying176, rfl⟩, by kernel_rfl, ?_⟩
  have h : wholeA false 0 = Array.replicate 193 (.bool false) := by
    apply Array.ext_getElem?
    intro i
    rw [wholeA_get, Array.getElem?_replicate]
    by_cases h0 : i = 0
    · subst h0; simp
    · rw [if_neg h0]
      by_cases h1 : i < 193
      · rw [if_pos (by omega), if_pos h1]; simp
      · rw [if_neg (by omega), if_neg h1]
  rw [h]
  show (Try.prog.info? 176).bind (·.zero) = some (.agg (Array.replicate 193 (.bool false)))
  kernel_rfl
attribute [local go_sem high] bitsA_get wholeA_get
theorem bit_of {x k : Nat} {b : Bool} (h : x.testBit k = b) : bit x k = b.toNat := by unfold bit; rw [h]
theorem plus_out {x y k c : Nat} {p q v : Bool} (hk : k < 192) (hc : carry x y k = c) (hp : x.testBit k = p) (hq : y.testBit k = q) (hv : v = decide ((c + p.toNat + q.toNat) % 2 = 1)) :
    (bitsA ((x + y) % 2 ^ k)).setIfInBounds k (.bool v) = bitsA ((x + y) % 2 ^ (k + 1)) := by
  rw [← bitsA_low hk, testBit_of_bit, bit_add, hc, bit_of hp, bit_of hq, hv]
theorem carry_next {x y k c : Nat} {p q : Bool} (hc : carry x y k = c) (hp : x.testBit k = p) (hq : y.testBit k = q) : carry x y (k + 1) = (c + p.toNat + q.toNat) / 2 := by
  rw [carry_succ, hc, bit_of hp, bit_of hq]
set_option maxRecDepth 100000 in
set_option maxHeartbeats 1000000 in
theorem rplus_any (x y : Nat) : Ans 154 #[.agg (bitsA x), .agg (bitsA y)] (.agg (bitsA (x + y))) := by
  intro w
  go_enter Try.func154, Try.ntmps154
  go_wp2_with ((with_reducible show wpList _ _ _ (_ :: _) _ _); (with_reducible apply wpl_allocR row192); (· rfl); (simp only [Act.put, List.setIfInBounds_toArray, List.set_cons_zero, List.set_cons_succ, World.size_alloc, size_ext, World.size_drew]))
  go_loopw [6, 7] (fun c i wr => ∃ k : Nat, k ≤ 192 ∧ i = .int .i64 k ∧ c = .int .i64 (carry x y k : Nat) ∧ wr = (((w.alloc (.cells (bitsA x) 174)).alloc (.cells (bitsA y) 174)).alloc (.cells (bitsA 0) 174)).alloc (.cells (bitsA ((x + y) % 2 ^ k)) 174)) (fun _ i _ => 192 - (intOf i).toNat)
  case atStart => exact ⟨0, by omega, rfl, by rw [carry_zero]; rfl, by rw [Nat.pow_zero, Nat.mod_one]⟩
  case round =>
    obtain ⟨k, hk, rfl, rfl, rfl⟩ := hrel
    have hc := carry_le x y k
    generalize hcc : carry x y k = c at *
    have HC := Lib.hid hcc
    clear hcc
    by_cases hlt : k < 192
    · cases hx : x.testBit k <;> cases hy : y.testBit k
      all_goals
        go_wp2_with fail
        go_roundw
        case rel =>
          refine ⟨k + 1, by omega, by go_num, ?_, ?_⟩
          · rw [carry_next HC.out hx hy]; simp
          · rw [plus_out hlt HC.out hx hy]
            rw [Bool.eq_iff_iff]; simp; omega
        case measure => simp [intOf]; omega
    · obtain rfl : k = 192 := by omega
      rw [bitsA_mod]
      go_wp2_with (first | ((with_reducible show wpList _ _ _ (_ :: _) _ _); (with_reducible apply wpl_loadR row192); (· rfl); (· rfl); (· (repeat (first | ((with_reducible refine blk_here ?_); first | with_reducible rfl | (simp only [World.size_alloc, size_ext, World.size_drew]; done)) | with_reducible refine blk_past ?_ | with_reducible refine blk_extS ?_ | with_reducible refine blk_drewS ?_))); (· (first | (simp only [bitsA_size, wholeA_size, Nat.zero_add, Nat.reduceAdd, Nat.le_refl, Nat.reduceLeDiff]; done) | with_reducible rfl | (simp; done))); (· (with_reducible first | exact bitsA_ext0 _ | exact wholeA_ext0 _ _ | exact wholeA_ext1 _ _)); (simp only [Act.put, List.setIfInBounds_toArray, List.set_cons_zero, List.set_cons_succ])) | ((with_reducible show wpList _ _ _ (_ :: _) _ _); (with_reducible apply wpl_storeR row192); (· rfl); (· rfl); (· rfl); (· with_reducible exact (bitsA_cells _)); (· (repeat (first | ((with_reducible refine blk_here ?_); first | with_reducible rfl | (simp only [World.size_alloc, size_ext, World.size_drew]; done)) | with_reducible refine blk_past ?_ | with_reducible refine blk_extS ?_ | with_reducible refine blk_drewS ?_))); (· (first | (simp only [bitsA_size, wholeA_size, Nat.zero_add, Nat.reduceAdd, Nat.le_refl, Nat.reduceLeDiff]; done) | with_reducible rfl | (simp; done))); (· (with_reducible first | exact bitsA_splice _ _ | exact wholeA_splice0 _ _ _ _ | exact wholeA_splice1 _ _ _)); (· (repeat (first | ((with_reducible apply SetTo.here); first | with_reducible rfl | (simp only [World.size_alloc, size_ext, World.size_drew]; done)) | with_reducible apply SetTo.past | with_reducible apply SetTo.ext | with_reducible apply SetTo.drew))); (simp only [Act.put, List.setIfInBounds_toArray, List.set_cons_zero, List.set_cons_succ])) | ((with_reducible show wpList _ _ _ (_ :: _) _ _); (with_reducible apply wpl_allocR row192); (· rfl); (simp only [Act.put, List.setIfInBounds_toArray, List.set_cons_zero, List.set_cons_succ, World.size_alloc, size_ext, World.size_drew])) | ((with_reducible apply ret_rowR row192); (· rfl); (· rfl); (· rfl); (· (repeat (first | ((with_reducible refine blk_here ?_); first | with_reducible rfl | (simp only [World.size_alloc, size_ext, World.size_drew]; done)) | with_reducible refine blk_past ?_ | with_reducible refine blk_extS ?_ | with_reducible refine blk_drewS ?_))); (· (first | (simp only [bitsA_size, wholeA_size, Nat.zero_add, Nat.reduceAdd, Nat.le_refl, Nat.reduceLeDiff]; done) | with_reducible rfl | (simp; done))); (exact ⟨rfl, (by repeat (first | exact Ext.refl _ | refine Ext.alloc ?_ _ | refine Ext.ext ?_ _ | refine Ext.drew ?_))⟩)))
set_option maxRecDepth 100000 in
set_option maxHeartbeats 1000000 in
theorem shifted_any (x m : Nat) (hm : m < 192) : Ans 155 #[.agg (bitsA x), .int .i64 m] (.agg (bitsA (x * 2 ^ m))) := by
  intro w
  go_enter Try.func155, Try.ntmps155
  go_wp2_with ((with_reducible show wpList _ _ _ (_ :: _) _ _); (with_reducible apply wpl_allocR row192); (· rfl); (simp only [Act.put, List.setIfInBounds_toArray, List.set_cons_zero, List.set_cons_succ, World.size_alloc, size_ext, World.size_drew]))
  go_loopw [6] (fun i wr => ∃ k : Nat, m ≤ k ∧ k ≤ 192 ∧ i = .int .i64 k ∧ wr = ((w.alloc (.cells (bitsA x) 174)).alloc (.cells (bitsA 0) 174)).alloc (.cells (bitsA ((x * 2 ^ m) % 2 ^ k)) 174)) (fun i _ => 192 - (intOf i).toNat)
  case atStart => exact ⟨m, by omega, by omega, rfl, by rw [Nat.mul_mod_left]⟩
  case round =>
    obtain ⟨k, hm', hk, rfl, rfl⟩ := hrel
    by_cases hlt : k < 192
    · go_wp2_with fail
      go_roundw
      case rel =>
        refine ⟨k + 1, by omega, by omega, by go_num, ?_⟩
        rw [← bitsA_low hlt, Nat.testBit_mul_two_pow]
        simp [hm']
      case measure => simp [intOf]; omega
    · obtain rfl : k = 192 := by omega
      rw [bitsA_mod]
      go_wp2_with (first | ((with_reducible show wpList _ _ _ (_ :: _) _ _); (with_reducible apply wpl_loadR row192); (· rfl); (· rfl); (· (repeat (first | ((with_reducible refine blk_here ?_); first | with_reducible rfl | (simp only [World.size_alloc, size_ext, World.size_drew]; done)) | with_reducible refine blk_past ?_ | with_reducible refine blk_extS ?_ | with_reducible refine blk_drewS ?_))); (· (first | (simp only [bitsA_size, wholeA_size, Nat.zero_add, Nat.reduceAdd, Nat.le_refl, Nat.reduceLeDiff]; done) | with_reducible rfl | (simp; done))); (· (with_reducible first | exact bitsA_ext0 _ | exact wholeA_ext0 _ _ | exact wholeA_ext1 _ _)); (simp only [Act.put, List.setIfInBounds_toArray, List.set_cons_zero, List.set_cons_succ])) | ((with_reducible show wpList _ _ _ (_ :: _) _ _); (with_reducible apply wpl_storeR row192); (· rfl); (· rfl); (· rfl); (· with_reducible exact (bitsA_cells _)); (· (repeat (first | ((with_reducible refine blk_here ?_); first | with_reducible rfl | (simp only [World.size_alloc, size_ext, World.size_drew]; done)) | with_reducible refine blk_past ?_ | with_reducible refine blk_extS ?_ | with_reducible refine blk_drewS ?_))); (· (first | (simp only [bitsA_size, wholeA_size, Nat.zero_add, Nat.reduceAdd, Nat.le_refl, Nat.reduceLeDiff]; done) | with_reducible rfl | (simp; done))); (· (with_reducible first | exact bitsA_splice _ _ | exact wholeA_splice0 _ _ _ _ | exact wholeA_splice1 _ _ _)); (· (repeat (first | ((with_reducible apply SetTo.here); first | with_reducible rfl | (simp only [World.size_alloc, size_ext, World.size_drew]; done)) | with_reducible apply SetTo.past | with_reducible apply SetTo.ext | with_reducible apply SetTo.drew))); (simp only [Act.put, List.setIfInBounds_toArray, List.set_cons_zero, List.set_cons_succ])) | ((with_reducible show wpList _ _ _ (_ :: _) _ _); (with_reducible apply wpl_allocR row192); (· rfl); (simp only [Act.put, List.setIfInBounds_toArray, List.set_cons_zero, List.set_cons_succ, World.size_alloc, size_ext, World.size_drew])) | ((with_reducible apply ret_rowR row192); (· rfl); (· rfl); (· rfl); (· (repeat (first | ((with_reducible refine blk_here ?_); first | with_reducible rfl | (simp only [World.size_alloc, size_ext, World.size_drew]; done)) | with_reducible refine blk_past ?_ | with_reducible refine blk_extS ?_ | with_reducible refine blk_drewS ?_))); (· (first | (simp only [bitsA_size, wholeA_size, Nat.zero_add, Nat.reduceAdd, Nat.le_refl, Nat.reduceLeDiff]; done) | with_reducible rfl | (simp; done))); (exact ⟨rfl, (by repeat (first | exact Ext.refl _ | refine Ext.alloc ?_ _ | refine Ext.ext ?_ _ | refine Ext.drew ?_))⟩)))
end Go.Proofs.Ytacglcpjbepfnaa

/-! Build -/
/- Whole numbers that are built out of a sign and bits. -/
namespace Go.Proofs.Ytacglcpjbepfnaa
open Go.RowKit
set_option linter.unusedSimpArgs false
set_option linter.unusedVariables false

theorem bitsA_zero : bitsA 0 = Array.replicate 192 (.bool false) := by
  apply Array.ext_getElem?
  intro i
  rw [bitsA_get, Array.getElem?_replicate]
  simp
theorem bitsA_list (x : Nat) : bitsA x = ((List.range 192).map fun i => Value.bool (x.testBit i)).toArray := by
  apply Array.ext_getElem?
  intro i
  rw [bitsA_get]
  by_cases h : i < 192
  · simp [h, List.getElem?_range]
  · simp [h]
theorem build_0 (s : Bool) (w : World) : (Instr.build 176 #[(0, .bool s)]).run Try.prog w = .ok (.agg (#[.bool s] ++ Array.replicate 192 (.bool false))) w := by kernel_rfl
theorem build_whole (s : Bool) (w : World) : (Instr.build 176 #[(0, .bool s)]).run Try.prog w = .ok (.agg (wholeA s 0)) w := by
  rw [build_0]; unfold wholeA; rw [bitsA_zero]
theorem build_1 (s : Bool) (x : Nat) (w : World) : (Instr.build 176 #[(0, .bool s), (1, .agg ((List.range 192).map fun i => Value.bool (x.testBit i)).toArray)]).run Try.prog w =
    .ok (.agg (#[.bool s] ++ ((List.range 192).map fun i => Value.bool (x.testBit i)).toArray)) w := by kernel_rfl
theorem build_both (s : Bool) (x : Nat) (w : World) : (Instr.build 176 #[(0, .bool s), (1, .agg (bitsA x))]).run Try.prog w = .ok (.agg (wholeA s x)) w := by
  unfold wholeA; rw [bitsA_list]; exact build_1 s x w
theorem build_2 (x : Nat) (w : World) : (Instr.build 176 #[(1, .agg ((List.range 192).map fun i => Value.bool (x.testBit i)).toArray)]).run Try.prog w =
    .ok (.agg (#[.bool false] ++ ((List.range 192).map fun i => Value.bool (x.testBit i)).toArray)) w := by kernel_rfl
theorem build_bits (x : Nat) (w : World) : (Instr.build 176 #[(1, .agg (bitsA x))]).run Try.prog w = .ok (.agg (wholeA false x)) w := by
  unfold wholeA; rw [bitsA_list]; exact build_2 x w
theorem build_3 (w : World) : (Instr.build 174 #[]).run Try.prog w = .ok (.agg (Array.replicate 192 (.bool false))) w := by kernel_rfl
theorem build_none (w : World) : (Instr.build 174 #[]).run Try.prog w = .ok (.agg (bitsA 0)) w := by rw [build_3, bitsA_zero]
section
variable {ops : Array Oper} {rest : List Oper} {a : Act} {w : World} {Q : Exit → Act → World → Prop} {C : World → Prop} {K : Act → Prop} {dst : Option Tmp} {ty : TypeId} {pos : String} {after : Array Edge} {guard : Option (Nat × Bool)} {x y : Operand} {s : Bool} {m : Nat}
theorem exec_build {T : TypeId} {parts : Array (Nat × Operand)} {ps : Array (Nat × Value)} {v : Value} (hp : (parts.map fun (i, x) => (i, a.eval x)) = ps) (h : ∀ w, (Instr.build T ps).run Try.prog w = .ok v w) :
    ∀ w, (execOp a.eval ⟨dst, .build T parts, ty, pos, after, guard⟩).run Try.prog w = .ok (.value v) w := by
  subst hp
  intro w
  unfold execOp
  simp only [Sem.run_bind, h]
  rfl
theorem wpl_build0 (hw : Region.wanted ⟨dst, .build 176 #[(0, x)], ty, pos, after, guard⟩ (yielded ops a.tmps) = true) (hx : a.eval x = .bool s) (h : wpList Try.prog ops Q rest (a.put dst (.agg (wholeA s 0))) w) :
    wpList Try.prog ops Q (⟨dst, .build 176 #[(0, x)], ty, pos, after, guard⟩ :: rest) a w :=
  wpl_pure hw _ (exec_build (by simp [hx]) (build_whole s)) h
theorem wpl_build2 (hw : Region.wanted ⟨dst, .build 176 #[(1, x)], ty, pos, after, guard⟩ (yielded ops a.tmps) = true) (hx : a.eval x = .agg (bitsA m)) (h : wpList Try.prog ops Q rest (a.put dst (.agg (wholeA false m))) w) :
    wpList Try.prog ops Q (⟨dst, .build 176 #[(1, x)], ty, pos, after, guard⟩ :: rest) a w :=
  wpl_pure hw _ (exec_build (by simp [hx]) (build_bits m)) h
theorem wpQ_build1 (hw : Region.wanted ⟨dst, .build 176 #[(0, x), (1, y)], ty, pos, after, guard⟩ (yielded ops a.tmps) = true) (hx : a.eval x = .bool s) (hy : a.eval y = .agg (bitsA m)) (h : wpQuiet Try.prog ops C K rest (a.put dst (.agg (wholeA s m)))) :
    wpQuiet Try.prog ops C K (⟨dst, .build 176 #[(0, x), (1, y)], ty, pos, after, guard⟩ :: rest) a :=
  wpQ_pure hw _ (exec_build (by simp [hx, hy]) (build_both s m)) h
theorem wpl_build3 (hw : Region.wanted ⟨dst, .build 174 #[], ty, pos, after, guard⟩ (yielded ops a.tmps) = true) (h : wpList Try.prog ops Q rest (a.put dst (.agg (bitsA 0))) w) :
    wpList Try.prog ops Q (⟨dst, .build 174 #[], ty, pos, after, guard⟩ :: rest) a w :=
  wpl_pure hw _ (exec_build (by simp) build_none) h
end
end Go.Proofs.Ytacglcpjbepfnaa

/-! Ref01b -/
/- countinghouseref01: which of two sizes is greater, a number as a whole one. -/
namespace Go.Proofs.Ytacglcpjbepfnaa
open Go.RowKit
set_option linter.unusedSimpArgs false
set_option linter.unusedVariables false
attribute [local go_sem high] bitsA_get wholeA_get

theorem exts_refl (w : World) : ∃ d, w = World.ext w d := ext_of (Below.refl _ _)
theorem greater_hit {x y k : Nat} (h : x / 2 ^ (k + 1) = y / 2 ^ (k + 1)) (hne : x.testBit k ≠ y.testBit k) : x.testBit k = decide (y < x) := by
  have e1 := div_succ x k
  have e2 := div_succ y k
  rw [h] at e1
  have hlt : ∀ {a b : Nat}, a / 2 ^ k < b / 2 ^ k → a < b := fun {a b} h => by
    rcases Nat.lt_or_ge a b with h' | h'
    · exact h'
    · have := Nat.div_le_div_right (c := 2 ^ k) h'; omega
  cases hx : x.testBit k <;> cases hy : y.testBit k <;> rw [hx, hy] at hne
  · exact absurd rfl hne
  · have : x < y := hlt (by rw [e1, e2, bit, bit, hx, hy]; simp)
    simp; omega
  · have : y < x := hlt (by rw [e1, e2, bit, bit, hx, hy]; simp)
    simp [this]
  · exact absurd rfl hne
theorem greater_same {x y k : Nat} (h : x / 2 ^ (k + 1) = y / 2 ^ (k + 1)) (he : x.testBit k = y.testBit k) : x / 2 ^ k = y / 2 ^ k := by
  rw [div_succ x k, div_succ y k, h, bit, bit, he]
set_option maxRecDepth 100000 in
set_option maxHeartbeats 1000000 in
theorem greater_any (x y : Nat) (hx : x < 2 ^ 192) (hy : y < 2 ^ 192) : Ans 132 #[.agg (bitsA x), .agg (bitsA y)] (.bool (decide (y < x))) := by
  intro w
  have HX := Lib.hid hx
  have HY := Lib.hid hy
  clear hx hy
  go_enter Try.func132, Try.ntmps132
  go_wp2_with fail
  go_loopw [5] (fun i wr => ∃ k : Nat, k ≤ 192 ∧ i = .int .i64 ((k : Int) - 1) ∧ Hid (x / 2 ^ k = y / 2 ^ k) ∧ ∃ d, wr = World.ext ((w.alloc (.cells (bitsA x) 174)).alloc (.cells (bitsA y) 174)) d) (fun i _ => ((intOf i) + 1).toNat)
  case atStart =>
    refine ⟨192, by omega, rfl, ?_, exts_refl _⟩
    have h1 := Nat.div_eq_of_lt HX.out
    have h2 := Nat.div_eq_of_lt HY.out
    exact Lib.hid (by rw [h1, h2])
  case round =>
    obtain ⟨k, hk, rfl, hdiv, d, rfl⟩ := hrel
    rcases k with _ | k
    · have h := hdiv.out
      rw [Nat.pow_zero, Nat.div_one, Nat.div_one] at h
      subst h
      clear hdiv
      go_wp2_with fail
      go_ret
      exact ⟨by simp, (by repeat (first | exact Ext.refl _ | refine Ext.alloc ?_ _ | refine Ext.ext ?_ _ | refine Ext.drew ?_))⟩
    · have e : (((k + 1 : Nat) : Int) - 1) = (k : Int) := by omega
      rw [e]
      clear e
      have hnx := fun h => greater_same hdiv.out h
      have hhit := fun h => greater_hit hdiv.out h
      have HN := Lib.hid hnx
      have HH := Lib.hid hhit
      clear hnx hhit hdiv
      cases hx : x.testBit k <;> cases hy : y.testBit k
      all_goals
        rw [hx, hy] at HN HH
        go_wp2_with fail
        refine wp_region_ext (by kernel_rfl) (by kernel_rfl) ?_
        repeat (go_big_quiet_step (fail))
        refine wpQuiet_nil ?_
        rintro _ ⟨_, rfl⟩
        go_wp2_with fail
      · go_roundw
        case rel => exact ⟨k, by omega, rfl, Lib.hid (HN.out (by simp)), ext_of (by repeat (first | exact Ext.refl _ | refine Ext.alloc ?_ _ | refine Ext.ext ?_ _ | refine Ext.drew ?_))⟩
        case measure => first | (simp [intOf]; done) | (simp [intOf]; omega)
      · go_ret
        exact ⟨by rw [← HH.out (by simp)]; rfl, (by repeat (first | exact Ext.refl _ | refine Ext.alloc ?_ _ | refine Ext.ext ?_ _ | refine Ext.drew ?_))⟩
      · go_ret
        exact ⟨by rw [← HH.out (by simp)]; rfl, (by repeat (first | exact Ext.refl _ | refine Ext.alloc ?_ _ | refine Ext.ext ?_ _ | refine Ext.drew ?_))⟩
      · go_roundw
        case rel => exact ⟨k, by omega, rfl, Lib.hid (HN.out (by simp)), ext_of (by repeat (first | exact Ext.refl _ | refine Ext.alloc ?_ _ | refine Ext.ext ?_ _ | refine Ext.drew ?_))⟩
        case measure => first | (simp [intOf]; done) | (simp [intOf]; omega)

def sgn (a : Int) : Bool := decide (a < 0)
theorem sgn_neg {a : Int} (h : a < 0) : sgn a = true := decide_eq_true h
theorem sgn_pos {a : Int} (h : 0 ≤ a) : sgn a = false := decide_eq_false (by omega)
theorem not64 (x : Int) (h0 : 0 ≤ x) (h1 : x < 18446744073709551616) : bits .xor .u64 IntKind.u64.max x = 18446744073709551615 - x := by
  have h : bits .xor .u64 IntKind.u64.max x = IntKind.u64.wrap ((BitVec.ofInt 64 IntKind.u64.max ^^^ BitVec.ofInt 64 x).toNat : Int) := rfl
  have hm : BitVec.ofInt 64 IntKind.u64.max = BitVec.allOnes 64 := by decide +kernel
  rw [h, hm, BitVec.allOnes_xor, BitVec.toNat_not, BitVec.toNat_ofInt, IntWalk.u64_in]
  · simp; omega
  · simp; omega
theorem neg64 (a : Int) (h0 : -9223372036854775808 ≤ a) (h : a < 0) : IntKind.u64.wrap (bits .xor .u64 IntKind.u64.max (IntKind.u64.wrap a) + 1) = (a.natAbs : Int) := by
  have e : IntKind.u64.wrap a = a + 18446744073709551616 := by
    simp [IntKind.wrap, IntKind.bits, IntKind.signed]; omega
  rw [e, not64 _ (by omega) (by omega), IntWalk.u64_in _ (by omega)]; omega
theorem pos64 (a : Int) (h0 : 0 ≤ a) (h1 : a ≤ 9223372036854775807) : IntKind.u64.wrap a = (a.natAbs : Int) := by
  rw [IntWalk.u64_in _ (by omega)]; omega
theorem bit64 (m k : Nat) : (bits .and .u64 ((m : Int) / 2 ^ k) 1 == 1) = m.testBit k := by
  have h : bits .and .u64 ((m : Int) / 2 ^ k) 1 = IntKind.u64.wrap ((BitVec.ofInt 64 ((m : Int) / 2 ^ k) &&& BitVec.ofInt 64 1).toNat : Int) := rfl
  have e : ((m : Int) / 2 ^ k) = ((m / 2 ^ k : Nat) : Int) := by simp
  have e2 : (BitVec.ofInt 64 ((m / 2 ^ k : Nat) : Int) &&& BitVec.ofInt 64 1).toNat = m / 2 ^ k % 2 := by
    rw [BitVec.toNat_and]
    have h1 : (BitVec.ofInt 64 1).toNat = 1 := by decide +kernel
    rw [h1, Nat.and_one_is_mod]
    simp
    omega
  rw [h, e, e2, IntWalk.u64_in _ (by omega), testBit_of_bit, bit_div, Bool.eq_iff_iff]
  simp
  omega
theorem of_out {x k : Nat} {v : Bool} {s : Bool} (hk : k < 192) (hv : v = x.testBit k) : (wholeA s (x % 2 ^ k)).setIfInBounds (1 + k) (.bool v) = wholeA s (x % 2 ^ (k + 1)) := by
  subst hv; exact wholeA_set (bitsA_low hk)
set_option maxRecDepth 100000 in
set_option maxHeartbeats 1000000 in
theorem rof_whole (a : Int) (h0 : -9223372036854775808 ≤ a) (h1 : a ≤ 9223372036854775807) : Ans 131 #[.int .i64 a] (.agg (wholeA (sgn a) a.natAbs)) := by
  intro w
  have hm : a.natAbs ≤ 9223372036854775808 := by omega
  have HP := Lib.hid (pos64 a)
  have HN := Lib.hid (neg64 a h0)
  have HSN := Lib.hid (sgn_neg (a := a))
  have HSP := Lib.hid (sgn_pos (a := a))
  generalize a.natAbs = m at *
  generalize hs : sgn a = s at *
  clear hs
  by_cases hneg : a < 0
  · have kd : decide (a < 0) = true := by simpa using hneg
    obtain rfl := HSN.out hneg
    go_enter Try.func131, Try.ntmps131
    go_wp2_with (first | ((with_reducible show wpList _ _ _ (_ :: _) _ _); (with_reducible apply wpl_build0); (· rfl); (· rfl); (simp only [Act.put, List.setIfInBounds_toArray, List.set_cons_zero, List.set_cons_succ])) | ((with_reducible show wpList _ _ _ (_ :: _) _ _); (with_reducible apply wpl_build2); (· rfl); (· rfl); (simp only [Act.put, List.setIfInBounds_toArray, List.set_cons_zero, List.set_cons_succ])) | ((with_reducible show wpList _ _ _ (_ :: _) _ _); (with_reducible apply wpl_build3); (· rfl); (simp only [Act.put, List.setIfInBounds_toArray, List.set_cons_zero, List.set_cons_succ])) | ((with_reducible show wpList _ _ _ (_ :: _) _ _); (with_reducible apply wpl_loadR row192); (· rfl); (· rfl); (· (repeat (first | ((with_reducible refine blk_here ?_); first | with_reducible rfl | (simp only [World.size_alloc, size_ext, World.size_drew]; done)) | with_reducible refine blk_past ?_ | with_reducible refine blk_extS ?_ | with_reducible refine blk_drewS ?_))); (· (first | (simp only [bitsA_size, wholeA_size, Nat.zero_add, Nat.reduceAdd, Nat.le_refl, Nat.reduceLeDiff]; done) | with_reducible rfl | (simp; done))); (· (with_reducible first | exact bitsA_ext0 _ | exact wholeA_ext0 _ _ | exact wholeA_ext1 _ _)); (simp only [Act.put, List.setIfInBounds_toArray, List.set_cons_zero, List.set_cons_succ])) | ((with_reducible show wpList _ _ _ (_ :: _) _ _); (with_reducible apply wpl_storeR row192); (· rfl); (· rfl); (· rfl); (· with_reducible exact (bitsA_cells _)); (· (repeat (first | ((with_reducible refine blk_here ?_); first | with_reducible rfl | (simp only [World.size_alloc, size_ext, World.size_drew]; done)) | with_reducible refine blk_past ?_ | with_reducible refine blk_extS ?_ | with_reducible refine blk_drewS ?_))); (· (first | (simp only [bitsA_size, wholeA_size, Nat.zero_add, Nat.reduceAdd, Nat.le_refl, Nat.reduceLeDiff]; done) | with_reducible rfl | (simp; done))); (· (with_reducible first | exact bitsA_splice _ _ | exact wholeA_splice0 _ _ _ _ | exact wholeA_splice1 _ _ _)); (· (repeat (first | ((with_reducible apply SetTo.here); first | with_reducible rfl | (simp only [World.size_alloc, size_ext, World.size_drew]; done)) | with_reducible apply SetTo.past | with_reducible apply SetTo.ext | with_reducible apply SetTo.drew))); (simp only [Act.put, List.setIfInBounds_toArray, List.set_cons_zero, List.set_cons_succ])) | ((with_reducible show wpList _ _ _ (_ :: _) _ _); (with_reducible apply wpl_allocR row192); (· rfl); (simp only [Act.put, List.setIfInBounds_toArray, List.set_cons_zero, List.set_cons_succ, World.size_alloc, size_ext, World.size_drew])) | ((with_reducible apply ret_rowR row192); (· rfl); (· rfl); (· rfl); (· (repeat (first | ((with_reducible refine blk_here ?_); first | with_reducible rfl | (simp only [World.size_alloc, size_ext, World.size_drew]; done)) | with_reducible refine blk_past ?_ | with_reducible refine blk_extS ?_ | with_reducible refine blk_drewS ?_))); (· (first | (simp only [bitsA_size, wholeA_size, Nat.zero_add, Nat.reduceAdd, Nat.le_refl, Nat.reduceLeDiff]; done) | with_reducible rfl | (simp; done))); (exact ⟨rfl, (by repeat (first | exact Ext.refl _ | refine Ext.alloc ?_ _ | refine Ext.ext ?_ _ | refine Ext.drew ?_))⟩)) | ((with_reducible show wpList _ _ _ (_ :: _) _ _); (with_reducible apply wpl_loadR row193); (· rfl); (· rfl); (· (repeat (first | ((with_reducible refine blk_here ?_); first | with_reducible rfl | (simp only [World.size_alloc, size_ext, World.size_drew]; done)) | with_reducible refine blk_past ?_ | with_reducible refine blk_extS ?_ | with_reducible refine blk_drewS ?_))); (· (first | (simp only [bitsA_size, wholeA_size, Nat.zero_add, Nat.reduceAdd, Nat.le_refl, Nat.reduceLeDiff]; done) | with_reducible rfl | (simp; done))); (· (with_reducible first | exact bitsA_ext0 _ | exact wholeA_ext0 _ _ | exact wholeA_ext1 _ _)); (simp only [Act.put, List.setIfInBounds_toArray, List.set_cons_zero, List.set_cons_succ])) | ((with_reducible show wpList _ _ _ (_ :: _) _ _); (with_reducible apply wpl_storeR row193); (· rfl); (· rfl); (· rfl); (· with_reducible exact (wholeA_cells _ _)); (· (repeat (first | ((with_reducible refine blk_here ?_); first | with_reducible rfl | (simp only [World.size_alloc, size_ext, World.size_drew]; done)) | with_reducible refine blk_past ?_ | with_reducible refine blk_extS ?_ | with_reducible refine blk_drewS ?_))); (· (first | (simp only [bitsA_size, wholeA_size, Nat.zero_add, Nat.reduceAdd, Nat.le_refl, Nat.reduceLeDiff]; done) | with_reducible rfl | (simp; done))); (· (with_reducible first | exact bitsA_splice _ _ | exact wholeA_splice0 _ _ _ _ | exact wholeA_splice1 _ _ _)); (· (repeat (first | ((with_reducible apply SetTo.here); first | with_reducible rfl | (simp only [World.size_alloc, size_ext, World.size_drew]; done)) | with_reducible apply SetTo.past | with_reducible apply SetTo.ext | with_reducible apply SetTo.drew))); (simp only [Act.put, List.setIfInBounds_toArray, List.set_cons_zero, List.set_cons_succ])) | ((with_reducible show wpList _ _ _ (_ :: _) _ _); (with_reducible apply wpl_allocR row193); (· rfl); (simp only [Act.put, List.setIfInBounds_toArray, List.set_cons_zero, List.set_cons_succ, World.size_alloc, size_ext, World.size_drew])) | ((with_reducible apply ret_rowR row193); (· rfl); (· rfl); (· rfl); (· (repeat (first | ((with_reducible refine blk_here ?_); first | with_reducible rfl | (simp only [World.size_alloc, size_ext, World.size_drew]; done)) | with_reducible refine blk_past ?_ | with_reducible refine blk_extS ?_ | with_reducible refine blk_drewS ?_))); (· (first | (simp only [bitsA_size, wholeA_size, Nat.zero_add, Nat.reduceAdd, Nat.le_refl, Nat.reduceLeDiff]; done) | with_reducible rfl | (simp; done))); (exact ⟨rfl, (by repeat (first | exact Ext.refl _ | refine Ext.alloc ?_ _ | refine Ext.ext ?_ _ | refine Ext.drew ?_))⟩)))
    rw [HN.out hneg]
    clear HN HP HSP HSN
    go_loopw [5] (fun i wr => ∃ k : Nat, k ≤ 64 ∧ i = .int .i64 k ∧ wr = (w.alloc (.cells (wholeA false 0) 176)).alloc (.cells (wholeA true (m % 2 ^ k)) 176)) (fun i _ => 64 - (intOf i).toNat)
    case atStart => exact ⟨0, by omega, rfl, by rw [Nat.pow_zero, Nat.mod_one]⟩
    case round =>
      obtain ⟨k, hk, rfl, rfl⟩ := hrel
      by_cases hlt : k < 64
      · go_wp2_with fail
        go_roundw
        case rel => exact ⟨k + 1, by omega, by go_num, by rw [of_out (by omega) (bit64 m k)]⟩
        case measure => simp [intOf]; omega
      · obtain rfl : k = 64 := by omega
        rw [Nat.mod_eq_of_lt (show m < 2 ^ 64 by omega)]
        go_wp2_with (first | ((with_reducible show wpList _ _ _ (_ :: _) _ _); (with_reducible apply wpl_build0); (· rfl); (· rfl); (simp only [Act.put, List.setIfInBounds_toArray, List.set_cons_zero, List.set_cons_succ])) | ((with_reducible show wpList _ _ _ (_ :: _) _ _); (with_reducible apply wpl_build2); (· rfl); (· rfl); (simp only [Act.put, List.setIfInBounds_toArray, List.set_cons_zero, List.set_cons_succ])) | ((with_reducible show wpList _ _ _ (_ :: _) _ _); (with_reducible apply wpl_build3); (· rfl); (simp only [Act.put, List.setIfInBounds_toArray, List.set_cons_zero, List.set_cons_succ])) | ((with_reducible show wpList _ _ _ (_ :: _) _ _); (with_reducible apply wpl_loadR row192); (· rfl); (· rfl); (· (repeat (first | ((with_reducible refine blk_here ?_); first | with_reducible rfl | (simp only [World.size_alloc, size_ext, World.size_drew]; done)) | with_reducible refine blk_past ?_ | with_reducible refine blk_extS ?_ | with_reducible refine blk_drewS ?_))); (· (first | (simp only [bitsA_size, wholeA_size, Nat.zero_add, Nat.reduceAdd, Nat.le_refl, Nat.reduceLeDiff]; done) | with_reducible rfl | (simp; done))); (· (with_reducible first | exact bitsA_ext0 _ | exact wholeA_ext0 _ _ | exact wholeA_ext1 _ _)); (simp only [Act.put, List.setIfInBounds_toArray, List.set_cons_zero, List.set_cons_succ])) | ((with_reducible show wpList _ _ _ (_ :: _) _ _); (with_reducible apply wpl_storeR row192); (· rfl); (· rfl); (· rfl); (· with_reducible exact (bitsA_cells _)); (· (repeat (first | ((with_reducible refine blk_here ?_); first | with_reducible rfl | (simp only [World.size_alloc, size_ext, World.size_drew]; done)) | with_reducible refine blk_past ?_ | with_reducible refine blk_extS ?_ | with_reducible refine blk_drewS ?_))); (· (first | (simp only [bitsA_size, wholeA_size, Nat.zero_add, Nat.reduceAdd, Nat.le_refl, Nat.reduceLeDiff]; done) | with_reducible rfl | (simp; done))); (· (with_reducible first | exact bitsA_splice _ _ | exact wholeA_splice0 _ _ _ _ | exact wholeA_splice1 _ _ _)); (· (repeat (first | ((with_reducible apply SetTo.here); first | with_reducible rfl | (simp only [World.size_alloc, size_ext, World.size_drew]; done)) | with_reducible apply SetTo.past | with_reducible apply SetTo.ext | with_reducible apply SetTo.drew))); (simp only [Act.put, List.setIfInBounds_toArray, List.set_cons_zero, List.set_cons_succ])) | ((with_reducible show wpList _ _ _ (_ :: _) _ _); (with_reducible apply wpl_allocR row192); (· rfl); (simp only [Act.put, List.setIfInBounds_toArray, List.set_cons_zero, List.set_cons_succ, World.size_alloc, size_ext, World.size_drew])) | ((with_reducible apply ret_rowR row192); (· rfl); (· rfl); (· rfl); (· (repeat (first | ((with_reducible refine blk_here ?_); first | with_reducible rfl | (simp only [World.size_alloc, size_ext, World.size_drew]; done)) | with_reducible refine blk_past ?_ | with_reducible refine blk_extS ?_ | with_reducible refine blk_drewS ?_))); (· (first | (simp only [bitsA_size, wholeA_size, Nat.zero_add, Nat.reduceAdd, Nat.le_refl, Nat.reduceLeDiff]; done) | with_reducible rfl | (simp; done))); (exact ⟨rfl, (by repeat (first | exact Ext.refl _ | refine Ext.alloc ?_ _ | refine Ext.ext ?_ _ | refine Ext.drew ?_))⟩)) | ((with_reducible show wpList _ _ _ (_ :: _) _ _); (with_reducible apply wpl_loadR row193); (· rfl); (· rfl); (· (repeat (first | ((with_reducible refine blk_here ?_); first | with_reducible rfl | (simp only [World.size_alloc, size_ext, World.size_drew]; done)) | with_reducible refine blk_past ?_ | with_reducible refine blk_extS ?_ | with_reducible refine blk_drewS ?_))); (· (first | (simp only [bitsA_size, wholeA_size, Nat.zero_add, Nat.reduceAdd, Nat.le_refl, Nat.reduceLeDiff]; done) | with_reducible rfl | (simp; done))); (· (with_reducible first | exact bitsA_ext0 _ | exact wholeA_ext0 _ _ | exact wholeA_ext1 _ _)); (simp only [Act.put, List.setIfInBounds_toArray, List.set_cons_zero, List.set_cons_succ])) | ((with_reducible show wpList _ _ _ (_ :: _) _ _); (with_reducible apply wpl_storeR row193); (· rfl); (· rfl); (· rfl); (· with_reducible exact (wholeA_cells _ _)); (· (repeat (first | ((with_reducible refine blk_here ?_); first | with_reducible rfl | (simp only [World.size_alloc, size_ext, World.size_drew]; done)) | with_reducible refine blk_past ?_ | with_reducible refine blk_extS ?_ | with_reducible refine blk_drewS ?_))); (· (first | (simp only [bitsA_size, wholeA_size, Nat.zero_add, Nat.reduceAdd, Nat.le_refl, Nat.reduceLeDiff]; done) | with_reducible rfl | (simp; done))); (· (with_reducible first | exact bitsA_splice _ _ | exact wholeA_splice0 _ _ _ _ | exact wholeA_splice1 _ _ _)); (· (repeat (first | ((with_reducible apply SetTo.here); first | with_reducible rfl | (simp only [World.size_alloc, size_ext, World.size_drew]; done)) | with_reducible apply SetTo.past | with_reducible apply SetTo.ext | with_reducible apply SetTo.drew))); (simp only [Act.put, List.setIfInBounds_toArray, List.set_cons_zero, List.set_cons_succ])) | ((with_reducible show wpList _ _ _ (_ :: _) _ _); (with_reducible apply wpl_allocR row193); (· rfl); (simp only [Act.put, List.setIfInBounds_toArray, List.set_cons_zero, List.set_cons_succ, World.size_alloc, size_ext, World.size_drew])) | ((with_reducible apply ret_rowR row193); (· rfl); (· rfl); (· rfl); (· (repeat (first | ((with_reducible refine blk_here ?_); first | with_reducible rfl | (simp only [World.size_alloc, size_ext, World.size_drew]; done)) | with_reducible refine blk_past ?_ | with_reducible refine blk_extS ?_ | with_reducible refine blk_drewS ?_))); (· (first | (simp only [bitsA_size, wholeA_size, Nat.zero_add, Nat.reduceAdd, Nat.le_refl, Nat.reduceLeDiff]; done) | with_reducible rfl | (simp; done))); (exact ⟨rfl, (by repeat (first | exact Ext.refl _ | refine Ext.alloc ?_ _ | refine Ext.ext ?_ _ | refine Ext.drew ?_))⟩)))
  · have kd : decide (a < 0) = false := by simpa using hneg
    obtain rfl := HSP.out (by omega)
    have e : a = (m : Int) := by
      have h := HP.out (by omega) h1
      rwa [IntWalk.u64_in _ (by omega)] at h
    clear HN HP HSP HSN
    subst e
    go_enter Try.func131, Try.ntmps131
    go_wp2_with (first | ((with_reducible show wpList _ _ _ (_ :: _) _ _); (with_reducible apply wpl_build0); (· rfl); (· rfl); (simp only [Act.put, List.setIfInBounds_toArray, List.set_cons_zero, List.set_cons_succ])) | ((with_reducible show wpList _ _ _ (_ :: _) _ _); (with_reducible apply wpl_build2); (· rfl); (· rfl); (simp only [Act.put, List.setIfInBounds_toArray, List.set_cons_zero, List.set_cons_succ])) | ((with_reducible show wpList _ _ _ (_ :: _) _ _); (with_reducible apply wpl_build3); (· rfl); (simp only [Act.put, List.setIfInBounds_toArray, List.set_cons_zero, List.set_cons_succ])) | ((with_reducible show wpList _ _ _ (_ :: _) _ _); (with_reducible apply wpl_loadR row192); (· rfl); (· rfl); (· (repeat (first | ((with_reducible refine blk_here ?_); first | with_reducible rfl | (simp only [World.size_alloc, size_ext, World.size_drew]; done)) | with_reducible refine blk_past ?_ | with_reducible refine blk_extS ?_ | with_reducible refine blk_drewS ?_))); (· (first | (simp only [bitsA_size, wholeA_size, Nat.zero_add, Nat.reduceAdd, Nat.le_refl, Nat.reduceLeDiff]; done) | with_reducible rfl | (simp; done))); (· (with_reducible first | exact bitsA_ext0 _ | exact wholeA_ext0 _ _ | exact wholeA_ext1 _ _)); (simp only [Act.put, List.setIfInBounds_toArray, List.set_cons_zero, List.set_cons_succ])) | ((with_reducible show wpList _ _ _ (_ :: _) _ _); (with_reducible apply wpl_storeR row192); (· rfl); (· rfl); (· rfl); (· with_reducible exact (bitsA_cells _)); (· (repeat (first | ((with_reducible refine blk_here ?_); first | with_reducible rfl | (simp only [World.size_alloc, size_ext, World.size_drew]; done)) | with_reducible refine blk_past ?_ | with_reducible refine blk_extS ?_ | with_reducible refine blk_drewS ?_))); (· (first | (simp only [bitsA_size, wholeA_size, Nat.zero_add, Nat.reduceAdd, Nat.le_refl, Nat.reduceLeDiff]; done) | with_reducible rfl | (simp; done))); (· (with_reducible first | exact bitsA_splice _ _ | exact wholeA_splice0 _ _ _ _ | exact wholeA_splice1 _ _ _)); (· (repeat (first | ((with_reducible apply SetTo.here); first | with_reducible rfl | (simp only [World.size_alloc, size_ext, World.size_drew]; done)) | with_reducible apply SetTo.past | with_reducible apply SetTo.ext | with_reducible apply SetTo.drew))); (simp only [Act.put, List.setIfInBounds_toArray, List.set_cons_zero, List.set_cons_succ])) | ((with_reducible show wpList _ _ _ (_ :: _) _ _); (with_reducible apply wpl_allocR row192); (· rfl); (simp only [Act.put, List.setIfInBounds_toArray, List.set_cons_zero, List.set_cons_succ, World.size_alloc, size_ext, World.size_drew])) | ((with_reducible apply ret_rowR row192); (· rfl); (· rfl); (· rfl); (· (repeat (first | ((with_reducible refine blk_here ?_); first | with_reducible rfl | (simp only [World.size_alloc, size_ext, World.size_drew]; done)) | with_reducible refine blk_past ?_ | with_reducible refine blk_extS ?_ | with_reducible refine blk_drewS ?_))); (· (first | (simp only [bitsA_size, wholeA_size, Nat.zero_add, Nat.reduceAdd, Nat.le_refl, Nat.reduceLeDiff]; done) | with_reducible rfl | (simp; done))); (exact ⟨rfl, (by repeat (first | exact Ext.refl _ | refine Ext.alloc ?_ _ | refine Ext.ext ?_ _ | refine Ext.drew ?_))⟩)) | ((with_reducible show wpList _ _ _ (_ :: _) _ _); (with_reducible apply wpl_loadR row193); (· rfl); (· rfl); (· (repeat (first | ((with_reducible refine blk_here ?_); first | with_reducible rfl | (simp only [World.size_alloc, size_ext, World.size_drew]; done)) | with_reducible refine blk_past ?_ | with_reducible refine blk_extS ?_ | with_reducible refine blk_drewS ?_))); (· (first | (simp only [bitsA_size, wholeA_size, Nat.zero_add, Nat.reduceAdd, Nat.le_refl, Nat.reduceLeDiff]; done) | with_reducible rfl | (simp; done))); (· (with_reducible first | exact bitsA_ext0 _ | exact wholeA_ext0 _ _ | exact wholeA_ext1 _ _)); (simp only [Act.put, List.setIfInBounds_toArray, List.set_cons_zero, List.set_cons_succ])) | ((with_reducible show wpList _ _ _ (_ :: _) _ _); (with_reducible apply wpl_storeR row193); (· rfl); (· rfl); (· rfl); (· with_reducible exact (wholeA_cells _ _)); (· (repeat (first | ((with_reducible refine blk_here ?_); first | with_reducible rfl | (simp only [World.size_alloc, size_ext, World.size_drew]; done)) | with_reducible refine blk_past ?_ | with_reducible refine blk_extS ?_ | with_reducible refine blk_drewS ?_))); (· (first | (simp only [bitsA_size, wholeA_size, Nat.zero_add, Nat.reduceAdd, Nat.le_refl, Nat.reduceLeDiff]; done) | with_reducible rfl | (simp; done))); (· (with_reducible first | exact bitsA_splice _ _ | exact wholeA_splice0 _ _ _ _ | exact wholeA_splice1 _ _ _)); (· (repeat (first | ((with_reducible apply SetTo.here); first | with_reducible rfl | (simp only [World.size_alloc, size_ext, World.size_drew]; done)) | with_reducible apply SetTo.past | with_reducible apply SetTo.ext | with_reducible apply SetTo.drew))); (simp only [Act.put, List.setIfInBounds_toArray, List.set_cons_zero, List.set_cons_succ])) | ((with_reducible show wpList _ _ _ (_ :: _) _ _); (with_reducible apply wpl_allocR row193); (· rfl); (simp only [Act.put, List.setIfInBounds_toArray, List.set_cons_zero, List.set_cons_succ, World.size_alloc, size_ext, World.size_drew])) | ((with_reducible apply ret_rowR row193); (· rfl); (· rfl); (· rfl); (· (repeat (first | ((with_reducible refine blk_here ?_); first | with_reducible rfl | (simp only [World.size_alloc, size_ext, World.size_drew]; done)) | with_reducible refine blk_past ?_ | with_reducible refine blk_extS ?_ | with_reducible refine blk_drewS ?_))); (· (first | (simp only [bitsA_size, wholeA_size, Nat.zero_add, Nat.reduceAdd, Nat.le_refl, Nat.reduceLeDiff]; done) | with_reducible rfl | (simp; done))); (exact ⟨rfl, (by repeat (first | exact Ext.refl _ | refine Ext.alloc ?_ _ | refine Ext.ext ?_ _ | refine Ext.drew ?_))⟩)))
    go_loopw [5] (fun i wr => ∃ k : Nat, k ≤ 64 ∧ i = .int .i64 k ∧ wr = (w.alloc (.cells (wholeA false 0) 176)).alloc (.cells (wholeA false (m % 2 ^ k)) 176)) (fun i _ => 64 - (intOf i).toNat)
    case atStart => exact ⟨0, by omega, rfl, by rw [Nat.pow_zero, Nat.mod_one]⟩
    case round =>
      obtain ⟨k, hk, rfl, rfl⟩ := hrel
      by_cases hlt : k < 64
      · go_wp2_with fail
        go_roundw
        case rel => exact ⟨k + 1, by omega, by go_num, by rw [of_out (by omega) (bit64 m k)]⟩
        case measure => simp [intOf]; omega
      · obtain rfl : k = 64 := by omega
        rw [Nat.mod_eq_of_lt (show m < 2 ^ 64 by omega)]
        go_wp2_with (first | ((with_reducible show wpList _ _ _ (_ :: _) _ _); (with_reducible apply wpl_build0); (· rfl); (· rfl); (simp only [Act.put, List.setIfInBounds_toArray, List.set_cons_zero, List.set_cons_succ])) | ((with_reducible show wpList _ _ _ (_ :: _) _ _); (with_reducible apply wpl_build2); (· rfl); (· rfl); (simp only [Act.put, List.setIfInBounds_toArray, List.set_cons_zero, List.set_cons_succ])) | ((with_reducible show wpList _ _ _ (_ :: _) _ _); (with_reducible apply wpl_build3); (· rfl); (simp only [Act.put, List.setIfInBounds_toArray, List.set_cons_zero, List.set_cons_succ])) | ((with_reducible show wpList _ _ _ (_ :: _) _ _); (with_reducible apply wpl_loadR row192); (· rfl); (· rfl); (· (repeat (first | ((with_reducible refine blk_here ?_); first | with_reducible rfl | (simp only [World.size_alloc, size_ext, World.size_drew]; done)) | with_reducible refine blk_past ?_ | with_reducible refine blk_extS ?_ | with_reducible refine blk_drewS ?_))); (· (first | (simp only [bitsA_size, wholeA_size, Nat.zero_add, Nat.reduceAdd, Nat.le_refl, Nat.reduceLeDiff]; done) | with_reducible rfl | (simp; done))); (· (with_reducible first | exact bitsA_ext0 _ | exact wholeA_ext0 _ _ | exact wholeA_ext1 _ _)); (simp only [Act.put, List.setIfInBounds_toArray, List.set_cons_zero, List.set_cons_succ])) | ((with_reducible show wpList _ _ _ (_ :: _) _ _); (with_reducible apply wpl_storeR row192); (· rfl); (· rfl); (· rfl); (· with_reducible exact (bitsA_cells _)); (· (repeat (first | ((with_reducible refine blk_here ?_); first | with_reducible rfl | (simp only [World.size_alloc, size_ext, World.size_drew]; done)) | with_reducible refine blk_past ?_ | with_reducible refine blk_extS ?_ | with_reducible refine blk_drewS ?_))); (· (first | (simp only [bitsA_size, wholeA_size, Nat.zero_add, Nat.reduceAdd, Nat.le_refl, Nat.reduceLeDiff]; done) | with_reducible rfl | (simp; done))); (· (with_reducible first | exact bitsA_splice _ _ | exact wholeA_splice0 _ _ _ _ | exact wholeA_splice1 _ _ _)); (· (repeat (first | ((with_reducible apply SetTo.here); first | with_reducible rfl | (simp only [World.size_alloc, size_ext, World.size_drew]; done)) | with_reducible apply SetTo.past | with_reducible apply SetTo.ext | with_reducible apply SetTo.drew))); (simp only [Act.put, List.setIfInBounds_toArray, List.set_cons_zero, List.set_cons_succ])) | ((with_reducible show wpList _ _ _ (_ :: _) _ _); (with_reducible apply wpl_allocR row192); (· rfl); (simp only [Act.put, List.setIfInBounds_toArray, List.set_cons_zero, List.set_cons_succ, World.size_alloc, size_ext, World.size_drew])) | ((with_reducible apply ret_rowR row192); (· rfl); (· rfl); (· rfl); (· (repeat (first | ((with_reducible refine blk_here ?_); first | with_reducible rfl | (simp only [World.size_alloc, size_ext, World.size_drew]; done)) | with_reducible refine blk_past ?_ | with_reducible refine blk_extS ?_ | with_reducible refine blk_drewS ?_))); (· (first | (simp only [bitsA_size, wholeA_size, Nat.zero_add, Nat.reduceAdd, Nat.le_refl, Nat.reduceLeDiff]; done) | with_reducible rfl | (simp; done))); (exact ⟨rfl, (by repeat (first | exact Ext.refl _ | refine Ext.alloc ?_ _ | refine Ext.ext ?_ _ | refine Ext.drew ?_))⟩)) | ((with_reducible show wpList _ _ _ (_ :: _) _ _); (with_reducible apply wpl_loadR row193); (· rfl); (· rfl); (· (repeat (first | ((with_reducible refine blk_here ?_); first | with_reducible rfl | (simp only [World.size_alloc, size_ext, World.size_drew]; done)) | with_reducible refine blk_past ?_ | with_reducible refine blk_extS ?_ | with_reducible refine blk_drewS ?_))); (· (first | (simp only [bitsA_size, wholeA_size, Nat.zero_add, Nat.reduceAdd, Nat.le_refl, Nat.reduceLeDiff]; done) | with_reducible rfl | (simp; done))); (· (with_reducible first | exact bitsA_ext0 _ | exact wholeA_ext0 _ _ | exact wholeA_ext1 _ _)); (simp only [Act.put, List.setIfInBounds_toArray, List.set_cons_zero, List.set_cons_succ])) | ((with_reducible show wpList _ _ _ (_ :: _) _ _); (with_reducible apply wpl_storeR row193); (· rfl); (· rfl); (· rfl); (· with_reducible exact (wholeA_cells _ _)); (· (repeat (first | ((with_reducible refine blk_here ?_); first | with_reducible rfl | (simp only [World.size_alloc, size_ext, World.size_drew]; done)) | with_reducible refine blk_past ?_ | with_reducible refine blk_extS ?_ | with_reducible refine blk_drewS ?_))); (· (first | (simp only [bitsA_size, wholeA_size, Nat.zero_add, Nat.reduceAdd, Nat.le_refl, Nat.reduceLeDiff]; done) | with_reducible rfl | (simp; done))); (· (with_reducible first | exact bitsA_splice _ _ | exact wholeA_splice0 _ _ _ _ | exact wholeA_splice1 _ _ _)); (· (repeat (first | ((with_reducible apply SetTo.here); first | with_reducible rfl | (simp only [World.size_alloc, size_ext, World.size_drew]; done)) | with_reducible apply SetTo.past | with_reducible apply SetTo.ext | with_reducible apply SetTo.drew))); (simp only [Act.put, List.setIfInBounds_toArray, List.set_cons_zero, List.set_cons_succ])) | ((with_reducible show wpList _ _ _ (_ :: _) _ _); (with_reducible apply wpl_allocR row193); (· rfl); (simp only [Act.put, List.setIfInBounds_toArray, List.set_cons_zero, List.set_cons_succ, World.size_alloc, size_ext, World.size_drew])) | ((with_reducible apply ret_rowR row193); (· rfl); (· rfl); (· rfl); (· (repeat (first | ((with_reducible refine blk_here ?_); first | with_reducible rfl | (simp only [World.size_alloc, size_ext, World.size_drew]; done)) | with_reducible refine blk_past ?_ | with_reducible refine blk_extS ?_ | with_reducible refine blk_drewS ?_))); (· (first | (simp only [bitsA_size, wholeA_size, Nat.zero_add, Nat.reduceAdd, Nat.le_refl, Nat.reduceLeDiff]; done) | with_reducible rfl | (simp; done))); (exact ⟨rfl, (by repeat (first | exact Ext.refl _ | refine Ext.alloc ?_ _ | refine Ext.ext ?_ _ | refine Ext.drew ?_))⟩)))
end Go.Proofs.Ytacglcpjbepfnaa

/-! DivPlain -/
/- The plain arithmetic of a division of 128 bits by 64. No program in sight. -/
namespace Go.Proofs.Ytacglcpjbepfnaa

end Go.Proofs.Ytacglcpjbepfnaa

/-! Div64 -/
/- math/bits.Div64: the quotient and what is left, where the upper word is less than the divisor. -/
namespace Go.Proofs.Ytacglcpjbepfnaa
open Go.RowKit

end Go.Proofs.Ytacglcpjbepfnaa

/-! Exacts -/
/- What the functions of exacts come to: exact numbers. Each is the number itself where it is one of 64 bits. -/
namespace Go.Proofs.Ytacglcpjbepfnaa
open Go.RowKit

def badBy (a num den : Int) : Prop := a < 0 ∨ num < 0 ∨ den < 1
instance (a num den : Int) : Decidable (badBy a num den) := by unfold badBy; infer_instance
end Go.Proofs.Ytacglcpjbepfnaa

/-! Ref01n -/
/- countinghouseref01: a whole number as a number of 64 bits. -/
namespace Go.Proofs.Ytacglcpjbepfnaa
open Go.RowKit
set_option linter.unusedSimpArgs false
set_option linter.unusedVariables false
attribute [local go_sem high] bitsA_get wholeA_get
end Go.Proofs.Ytacglcpjbepfnaa

/-! Ref01c -/
/- countinghouseref01: the sum of two whole numbers, their product. -/
namespace Go.Proofs.Ytacglcpjbepfnaa
open Go.RowKit
set_option linter.unusedSimpArgs false
set_option linter.unusedVariables false
attribute [local go_sem high] bitsA_get wholeA_get

theorem mul_low (x y k : Nat) : x * (y % 2 ^ (k + 1)) = x * (y % 2 ^ k) + x * 2 ^ k * bit y k := by
  rw [mod_succ, Nat.mul_add, Nat.mul_assoc]
set_option maxRecDepth 100000 in
set_option maxHeartbeats 4000000 in
theorem times_any (s t : Bool) (x y : Nat) (hy : y < 2 ^ 64) : Ans 130 #[.agg (wholeA s x), .agg (wholeA t y)] (.agg (wholeA (s != t) (x * y))) := by
  intro w
  have HY := Lib.hid hy
  clear hy
  go_enter Try.func130, Try.ntmps130
  go_wp2_with (first | ((with_reducible show wpList _ _ _ (_ :: _) _ _); (with_reducible apply wpl_build0); (· rfl); (· rfl); (simp only [Act.put, List.setIfInBounds_toArray, List.set_cons_zero, List.set_cons_succ])) | ((with_reducible show wpList _ _ _ (_ :: _) _ _); (with_reducible apply wpl_build2); (· rfl); (· rfl); (simp only [Act.put, List.setIfInBounds_toArray, List.set_cons_zero, List.set_cons_succ])) | ((with_reducible show wpList _ _ _ (_ :: _) _ _); (with_reducible apply wpl_build3); (· rfl); (simp only [Act.put, List.setIfInBounds_toArray, List.set_cons_zero, List.set_cons_succ])) | ((with_reducible show wpList _ _ _ (_ :: _) _ _); (with_reducible apply wpl_loadR row192); (· rfl); (· rfl); (· (repeat (first | ((with_reducible refine blk_here ?_); first | with_reducible rfl | (simp only [World.size_alloc, size_ext, World.size_drew]; done)) | with_reducible refine blk_past ?_ | with_reducible refine blk_extS ?_ | with_reducible refine blk_drewS ?_))); (· (first | (simp only [bitsA_size, wholeA_size, Nat.zero_add, Nat.reduceAdd, Nat.le_refl, Nat.reduceLeDiff]; done) | with_reducible rfl | (simp; done))); (· (with_reducible first | exact bitsA_ext0 _ | exact wholeA_ext0 _ _ | exact wholeA_ext1 _ _)); (simp only [Act.put, List.setIfInBounds_toArray, List.set_cons_zero, List.set_cons_succ])) | ((with_reducible show wpList _ _ _ (_ :: _) _ _); (with_reducible apply wpl_storeR row192); (· rfl); (· rfl); (· rfl); (· with_reducible exact (bitsA_cells _)); (· (repeat (first | ((with_reducible refine blk_here ?_); first | with_reducible rfl | (simp only [World.size_alloc, size_ext, World.size_drew]; done)) | with_reducible refine blk_past ?_ | with_reducible refine blk_extS ?_ | with_reducible refine blk_drewS ?_))); (· (first | (simp only [bitsA_size, wholeA_size, Nat.zero_add, Nat.reduceAdd, Nat.le_refl, Nat.reduceLeDiff]; done) | with_reducible rfl | (simp; done))); (· (with_reducible first | exact bitsA_splice _ _ | exact wholeA_splice0 _ _ _ _ | exact wholeA_splice1 _ _ _)); (· (repeat (first | ((with_reducible apply SetTo.here); first | with_reducible rfl | (simp only [World.size_alloc, size_ext, World.size_drew]; done)) | with_reducible apply SetTo.past | with_reducible apply SetTo.ext | with_reducible apply SetTo.drew))); (simp only [Act.put, List.setIfInBounds_toArray, List.set_cons_zero, List.set_cons_succ])) | ((with_reducible show wpList _ _ _ (_ :: _) _ _); (with_reducible apply wpl_allocR row192); (· rfl); (simp only [Act.put, List.setIfInBounds_toArray, List.set_cons_zero, List.set_cons_succ, World.size_alloc, size_ext, World.size_drew])) | ((with_reducible apply ret_rowR row192); (· rfl); (· rfl); (· rfl); (· (repeat (first | ((with_reducible refine blk_here ?_); first | with_reducible rfl | (simp only [World.size_alloc, size_ext, World.size_drew]; done)) | with_reducible refine blk_past ?_ | with_reducible refine blk_extS ?_ | with_reducible refine blk_drewS ?_))); (· (first | (simp only [bitsA_size, wholeA_size, Nat.zero_add, Nat.reduceAdd, Nat.le_refl, Nat.reduceLeDiff]; done) | with_reducible rfl | (simp; done))); (exact ⟨rfl, (by repeat (first | exact Ext.refl _ | refine Ext.alloc ?_ _ | refine Ext.ext ?_ _ | refine Ext.drew ?_))⟩)) | ((with_reducible show wpList _ _ _ (_ :: _) _ _); (with_reducible apply wpl_loadR row193); (· rfl); (· rfl); (· (repeat (first | ((with_reducible refine blk_here ?_); first | with_reducible rfl | (simp only [World.size_alloc, size_ext, World.size_drew]; done)) | with_reducible refine blk_past ?_ | with_reducible refine blk_extS ?_ | with_reducible refine blk_drewS ?_))); (· (first | (simp only [bitsA_size, wholeA_size, Nat.zero_add, Nat.reduceAdd, Nat.le_refl, Nat.reduceLeDiff]; done) | with_reducible rfl | (simp; done))); (· (with_reducible first | exact bitsA_ext0 _ | exact wholeA_ext0 _ _ | exact wholeA_ext1 _ _)); (simp only [Act.put, List.setIfInBounds_toArray, List.set_cons_zero, List.set_cons_succ])) | ((with_reducible show wpList _ _ _ (_ :: _) _ _); (with_reducible apply wpl_storeR row193); (· rfl); (· rfl); (· rfl); (· with_reducible exact (wholeA_cells _ _)); (· (repeat (first | ((with_reducible refine blk_here ?_); first | with_reducible rfl | (simp only [World.size_alloc, size_ext, World.size_drew]; done)) | with_reducible refine blk_past ?_ | with_reducible refine blk_extS ?_ | with_reducible refine blk_drewS ?_))); (· (first | (simp only [bitsA_size, wholeA_size, Nat.zero_add, Nat.reduceAdd, Nat.le_refl, Nat.reduceLeDiff]; done) | with_reducible rfl | (simp; done))); (· (with_reducible first | exact bitsA_splice _ _ | exact wholeA_splice0 _ _ _ _ | exact wholeA_splice1 _ _ _)); (· (repeat (first | ((with_reducible apply SetTo.here); first | with_reducible rfl | (simp only [World.size_alloc, size_ext, World.size_drew]; done)) | with_reducible apply SetTo.past | with_reducible apply SetTo.ext | with_reducible apply SetTo.drew))); (simp only [Act.put, List.setIfInBounds_toArray, List.set_cons_zero, List.set_cons_succ])) | ((with_reducible show wpList _ _ _ (_ :: _) _ _); (with_reducible apply wpl_allocR row193); (· rfl); (simp only [Act.put, List.setIfInBounds_toArray, List.set_cons_zero, List.set_cons_succ, World.size_alloc, size_ext, World.size_drew])) | ((with_reducible apply ret_rowR row193); (· rfl); (· rfl); (· rfl); (· (repeat (first | ((with_reducible refine blk_here ?_); first | with_reducible rfl | (simp only [World.size_alloc, size_ext, World.size_drew]; done)) | with_reducible refine blk_past ?_ | with_reducible refine blk_extS ?_ | with_reducible refine blk_drewS ?_))); (· (first | (simp only [bitsA_size, wholeA_size, Nat.zero_add, Nat.reduceAdd, Nat.le_refl, Nat.reduceLeDiff]; done) | with_reducible rfl | (simp; done))); (exact ⟨rfl, (by repeat (first | exact Ext.refl _ | refine Ext.alloc ?_ _ | refine Ext.ext ?_ _ | refine Ext.drew ?_))⟩)))
  go_loopw [6] (fun i wr => ∃ k : Nat, k ≤ 64 ∧ i = .int .i64 k ∧ ∃ d, wr = World.ext ((((w.alloc (.cells (wholeA s x) 176)).alloc (.cells (wholeA t y) 176)).alloc (.cells (wholeA false 0) 176)).alloc (.cells (wholeA (s != t) (x * (y % 2 ^ k))) 176)) d) (fun i _ => 64 - (intOf i).toNat)
  case atStart =>
    obtain ⟨d, hd⟩ := exts_refl ((((w.alloc (.cells (wholeA s x) 176)).alloc (.cells (wholeA t y) 176)).alloc (.cells (wholeA false 0) 176)).alloc (.cells (wholeA (s != t) 0) 176))
    exact ⟨0, by omega, rfl, d, by rw [Nat.pow_zero, Nat.mod_one, Nat.mul_zero]; exact hd⟩
  case round =>
    obtain ⟨k, hk, rfl, d, rfl⟩ := hrel
    by_cases hlt : k < 64
    · have hS := shifted_any x k (by omega)
      have hP := rplus_any (x * (y % 2 ^ k)) (x * 2 ^ k)
      have hmul := mul_low x y k
      generalize x * (y % 2 ^ k) = m at *
      cases hb : y.testBit k
      · go_wp2_with (first | (first | ((with_reducible show wpList _ _ _ (_ :: _) _ _); (with_reducible apply wpl_build0); (· rfl); (· rfl); (simp only [Act.put, List.setIfInBounds_toArray, List.set_cons_zero, List.set_cons_succ])) | ((with_reducible show wpList _ _ _ (_ :: _) _ _); (with_reducible apply wpl_build2); (· rfl); (· rfl); (simp only [Act.put, List.setIfInBounds_toArray, List.set_cons_zero, List.set_cons_succ])) | ((with_reducible show wpList _ _ _ (_ :: _) _ _); (with_reducible apply wpl_build3); (· rfl); (simp only [Act.put, List.setIfInBounds_toArray, List.set_cons_zero, List.set_cons_succ])) | ((with_reducible show wpList _ _ _ (_ :: _) _ _); (with_reducible apply wpl_loadR row192); (· rfl); (· rfl); (· (repeat (first | ((with_reducible refine blk_here ?_); first | with_reducible rfl | (simp only [World.size_alloc, size_ext, World.size_drew]; done)) | with_reducible refine blk_past ?_ | with_reducible refine blk_extS ?_ | with_reducible refine blk_drewS ?_))); (· (first | (simp only [bitsA_size, wholeA_size, Nat.zero_add, Nat.reduceAdd, Nat.le_refl, Nat.reduceLeDiff]; done) | with_reducible rfl | (simp; done))); (· (with_reducible first | exact bitsA_ext0 _ | exact wholeA_ext0 _ _ | exact wholeA_ext1 _ _)); (simp only [Act.put, List.setIfInBounds_toArray, List.set_cons_zero, List.set_cons_succ])) | ((with_reducible show wpList _ _ _ (_ :: _) _ _); (with_reducible apply wpl_storeR row192); (· rfl); (· rfl); (· rfl); (· with_reducible exact (bitsA_cells _)); (· (repeat (first | ((with_reducible refine blk_here ?_); first | with_reducible rfl | (simp only [World.size_alloc, size_ext, World.size_drew]; done)) | with_reducible refine blk_past ?_ | with_reducible refine blk_extS ?_ | with_reducible refine blk_drewS ?_))); (· (first | (simp only [bitsA_size, wholeA_size, Nat.zero_add, Nat.reduceAdd, Nat.le_refl, Nat.reduceLeDiff]; done) | with_reducible rfl | (simp; done))); (· (with_reducible first | exact bitsA_splice _ _ | exact wholeA_splice0 _ _ _ _ | exact wholeA_splice1 _ _ _)); (· (repeat (first | ((with_reducible apply SetTo.here); first | with_reducible rfl | (simp only [World.size_alloc, size_ext, World.size_drew]; done)) | with_reducible apply SetTo.past | with_reducible apply SetTo.ext | with_reducible apply SetTo.drew))); (simp only [Act.put, List.setIfInBounds_toArray, List.set_cons_zero, List.set_cons_succ])) | ((with_reducible show wpList _ _ _ (_ :: _) _ _); (with_reducible apply wpl_allocR row192); (· rfl); (simp only [Act.put, List.setIfInBounds_toArray, List.set_cons_zero, List.set_cons_succ, World.size_alloc, size_ext, World.size_drew])) | ((with_reducible apply ret_rowR row192); (· rfl); (· rfl); (· rfl); (· (repeat (first | ((with_reducible refine blk_here ?_); first | with_reducible rfl | (simp only [World.size_alloc, size_ext, World.size_drew]; done)) | with_reducible refine blk_past ?_ | with_reducible refine blk_extS ?_ | with_reducible refine blk_drewS ?_))); (· (first | (simp only [bitsA_size, wholeA_size, Nat.zero_add, Nat.reduceAdd, Nat.le_refl, Nat.reduceLeDiff]; done) | with_reducible rfl | (simp; done))); (exact ⟨rfl, (by repeat (first | exact Ext.refl _ | refine Ext.alloc ?_ _ | refine Ext.ext ?_ _ | refine Ext.drew ?_))⟩)) | ((with_reducible show wpList _ _ _ (_ :: _) _ _); (with_reducible apply wpl_loadR row193); (· rfl); (· rfl); (· (repeat (first | ((with_reducible refine blk_here ?_); first | with_reducible rfl | (simp only [World.size_alloc, size_ext, World.size_drew]; done)) | with_reducible refine blk_past ?_ | with_reducible refine blk_extS ?_ | with_reducible refine blk_drewS ?_))); (· (first | (simp only [bitsA_size, wholeA_size, Nat.zero_add, Nat.reduceAdd, Nat.le_refl, Nat.reduceLeDiff]; done) | with_reducible rfl | (simp; done))); (· (with_reducible first | exact bitsA_ext0 _ | exact wholeA_ext0 _ _ | exact wholeA_ext1 _ _)); (simp only [Act.put, List.setIfInBounds_toArray, List.set_cons_zero, List.set_cons_succ])) | ((with_reducible show wpList _ _ _ (_ :: _) _ _); (with_reducible apply wpl_storeR row193); (· rfl); (· rfl); (· rfl); (· with_reducible exact (wholeA_cells _ _)); (· (repeat (first | ((with_reducible refine blk_here ?_); first | with_reducible rfl | (simp only [World.size_alloc, size_ext, World.size_drew]; done)) | with_reducible refine blk_past ?_ | with_reducible refine blk_extS ?_ | with_reducible refine blk_drewS ?_))); (· (first | (simp only [bitsA_size, wholeA_size, Nat.zero_add, Nat.reduceAdd, Nat.le_refl, Nat.reduceLeDiff]; done) | with_reducible rfl | (simp; done))); (· (with_reducible first | exact bitsA_splice _ _ | exact wholeA_splice0 _ _ _ _ | exact wholeA_splice1 _ _ _)); (· (repeat (first | ((with_reducible apply SetTo.here); first | with_reducible rfl | (simp only [World.size_alloc, size_ext, World.size_drew]; done)) | with_reducible apply SetTo.past | with_reducible apply SetTo.ext | with_reducible apply SetTo.drew))); (simp only [Act.put, List.setIfInBounds_toArray, List.set_cons_zero, List.set_cons_succ])) | ((with_reducible show wpList _ _ _ (_ :: _) _ _); (with_reducible apply wpl_allocR row193); (· rfl); (simp only [Act.put, List.setIfInBounds_toArray, List.set_cons_zero, List.set_cons_succ, World.size_alloc, size_ext, World.size_drew])) | ((with_reducible apply ret_rowR row193); (· rfl); (· rfl); (· rfl); (· (repeat (first | ((with_reducible refine blk_here ?_); first | with_reducible rfl | (simp only [World.size_alloc, size_ext, World.size_drew]; done)) | with_reducible refine blk_past ?_ | with_reducible refine blk_extS ?_ | with_reducible refine blk_drewS ?_))); (· (first | (simp only [bitsA_size, wholeA_size, Nat.zero_add, Nat.reduceAdd, Nat.le_refl, Nat.reduceLeDiff]; done) | with_reducible rfl | (simp; done))); (exact ⟨rfl, (by repeat (first | exact Ext.refl _ | refine Ext.alloc ?_ _ | refine Ext.ext ?_ _ | refine Ext.drew ?_))⟩))) | ((with_reducible refine Ans.call (by assumption) ?_); intro _))
        go_roundw
        case rel => exact ⟨k + 1, by omega, by go_num, d, by rw [hmul, bit_of hb]; simp⟩
        case measure => simp [intOf]; omega
      · have HM := Lib.hid hmul
        clear hmul
        go_wp2_with (first | (first | ((with_reducible show wpList _ _ _ (_ :: _) _ _); (with_reducible apply wpl_build0); (· rfl); (· rfl); (simp only [Act.put, List.setIfInBounds_toArray, List.set_cons_zero, List.set_cons_succ])) | ((with_reducible show wpList _ _ _ (_ :: _) _ _); (with_reducible apply wpl_build2); (· rfl); (· rfl); (simp only [Act.put, List.setIfInBounds_toArray, List.set_cons_zero, List.set_cons_succ])) | ((with_reducible show wpList _ _ _ (_ :: _) _ _); (with_reducible apply wpl_build3); (· rfl); (simp only [Act.put, List.setIfInBounds_toArray, List.set_cons_zero, List.set_cons_succ])) | ((with_reducible show wpList _ _ _ (_ :: _) _ _); (with_reducible apply wpl_loadR row192); (· rfl); (· rfl); (· (repeat (first | ((with_reducible refine blk_here ?_); first | with_reducible rfl | (simp only [World.size_alloc, size_ext, World.size_drew]; done)) | with_reducible refine blk_past ?_ | with_reducible refine blk_extS ?_ | with_reducible refine blk_drewS ?_))); (· (first | (simp only [bitsA_size, wholeA_size, Nat.zero_add, Nat.reduceAdd, Nat.le_refl, Nat.reduceLeDiff]; done) | with_reducible rfl | (simp; done))); (· (with_reducible first | exact bitsA_ext0 _ | exact wholeA_ext0 _ _ | exact wholeA_ext1 _ _)); (simp only [Act.put, List.setIfInBounds_toArray, List.set_cons_zero, List.set_cons_succ])) | ((with_reducible show wpList _ _ _ (_ :: _) _ _); (with_reducible apply wpl_storeR row192); (· rfl); (· rfl); (· rfl); (· with_reducible exact (bitsA_cells _)); (· (repeat (first | ((with_reducible refine blk_here ?_); first | with_reducible rfl | (simp only [World.size_alloc, size_ext, World.size_drew]; done)) | with_reducible refine blk_past ?_ | with_reducible refine blk_extS ?_ | with_reducible refine blk_drewS ?_))); (· (first | (simp only [bitsA_size, wholeA_size, Nat.zero_add, Nat.reduceAdd, Nat.le_refl, Nat.reduceLeDiff]; done) | with_reducible rfl | (simp; done))); (· (with_reducible first | exact bitsA_splice _ _ | exact wholeA_splice0 _ _ _ _ | exact wholeA_splice1 _ _ _)); (· (repeat (first | ((with_reducible apply SetTo.here); first | with_reducible rfl | (simp only [World.size_alloc, size_ext, World.size_drew]; done)) | with_reducible apply SetTo.past | with_reducible apply SetTo.ext | with_reducible apply SetTo.drew))); (simp only [Act.put, List.setIfInBounds_toArray, List.set_cons_zero, List.set_cons_succ])) | ((with_reducible show wpList _ _ _ (_ :: _) _ _); (with_reducible apply wpl_allocR row192); (· rfl); (simp only [Act.put, List.setIfInBounds_toArray, List.set_cons_zero, List.set_cons_succ, World.size_alloc, size_ext, World.size_drew])) | ((with_reducible apply ret_rowR row192); (· rfl); (· rfl); (· rfl); (· (repeat (first | ((with_reducible refine blk_here ?_); first | with_reducible rfl | (simp only [World.size_alloc, size_ext, World.size_drew]; done)) | with_reducible refine blk_past ?_ | with_reducible refine blk_extS ?_ | with_reducible refine blk_drewS ?_))); (· (first | (simp only [bitsA_size, wholeA_size, Nat.zero_add, Nat.reduceAdd, Nat.le_refl, Nat.reduceLeDiff]; done) | with_reducible rfl | (simp; done))); (exact ⟨rfl, (by repeat (first | exact Ext.refl _ | refine Ext.alloc ?_ _ | refine Ext.ext ?_ _ | refine Ext.drew ?_))⟩)) | ((with_reducible show wpList _ _ _ (_ :: _) _ _); (with_reducible apply wpl_loadR row193); (· rfl); (· rfl); (· (repeat (first | ((with_reducible refine blk_here ?_); first | with_reducible rfl | (simp only [World.size_alloc, size_ext, World.size_drew]; done)) | with_reducible refine blk_past ?_ | with_reducible refine blk_extS ?_ | with_reducible refine blk_drewS ?_))); (· (first | (simp only [bitsA_size, wholeA_size, Nat.zero_add, Nat.reduceAdd, Nat.le_refl, Nat.reduceLeDiff]; done) | with_reducible rfl | (simp; done))); (· (with_reducible first | exact bitsA_ext0 _ | exact wholeA_ext0 _ _ | exact wholeA_ext1 _ _)); (simp only [Act.put, List.setIfInBounds_toArray, List.set_cons_zero, List.set_cons_succ])) | ((with_reducible show wpList _ _ _ (_ :: _) _ _); (with_reducible apply wpl_storeR row193); (· rfl); (· rfl); (· rfl); (· with_reducible exact (wholeA_cells _ _)); (· (repeat (first | ((with_reducible refine blk_here ?_); first | with_reducible rfl | (simp only [World.size_alloc, size_ext, World.size_drew]; done)) | with_reducible refine blk_past ?_ | with_reducible refine blk_extS ?_ | with_reducible refine blk_drewS ?_))); (· (first | (simp only [bitsA_size, wholeA_size, Nat.zero_add, Nat.reduceAdd, Nat.le_refl, Nat.reduceLeDiff]; done) | with_reducible rfl | (simp; done))); (· (with_reducible first | exact bitsA_splice _ _ | exact wholeA_splice0 _ _ _ _ | exact wholeA_splice1 _ _ _)); (· (repeat (first | ((with_reducible apply SetTo.here); first | with_reducible rfl | (simp only [World.size_alloc, size_ext, World.size_drew]; done)) | with_reducible apply SetTo.past | with_reducible apply SetTo.ext | with_reducible apply SetTo.drew))); (simp only [Act.put, List.setIfInBounds_toArray, List.set_cons_zero, List.set_cons_succ])) | ((with_reducible show wpList _ _ _ (_ :: _) _ _); (with_reducible apply wpl_allocR row193); (· rfl); (simp only [Act.put, List.setIfInBounds_toArray, List.set_cons_zero, List.set_cons_succ, World.size_alloc, size_ext, World.size_drew])) | ((with_reducible apply ret_rowR row193); (· rfl); (· rfl); (· rfl); (· (repeat (first | ((with_reducible refine blk_here ?_); first | with_reducible rfl | (simp only [World.size_alloc, size_ext, World.size_drew]; done)) | with_reducible refine blk_past ?_ | with_reducible refine blk_extS ?_ | with_reducible refine blk_drewS ?_))); (· (first | (simp only [bitsA_size, wholeA_size, Nat.zero_add, Nat.reduceAdd, Nat.le_refl, Nat.reduceLeDiff]; done) | with_reducible rfl | (simp; done))); (exact ⟨rfl, (by repeat (first | exact Ext.refl _ | refine Ext.alloc ?_ _ | refine Ext.ext ?_ _ | refine Ext.drew ?_))⟩))) | ((with_reducible refine Ans.call (by assumption) ?_); intro _))
        refine wp_region_ext_tail 8 (by kernel_rfl) (by kernel_rfl) ?_
        simp only [List.take_succ_cons, List.take_zero, List.drop_succ_cons, List.drop_zero]
        repeat (first | ((with_reducible apply wpQ_loadR row192); (· rfl); (· rfl); (· (repeat (first | ((with_reducible refine blk_here ?_); first | with_reducible rfl | (simp only [World.size_alloc, size_ext, World.size_drew]; done)) | with_reducible refine blk_past ?_ | with_reducible refine blk_extS ?_ | with_reducible refine blk_drewS ?_))); (· (first | (simp only [bitsA_size, wholeA_size, Nat.zero_add, Nat.reduceAdd, Nat.le_refl, Nat.reduceLeDiff]; done) | with_reducible rfl | (simp; done))); (· (with_reducible first | exact bitsA_ext0 _ | exact wholeA_ext0 _ _ | exact wholeA_ext1 _ _)); (simp only [Act.put, List.setIfInBounds_toArray, List.set_cons_zero, List.set_cons_succ])) | ((with_reducible apply wpQ_build1); (· rfl); (· rfl); (· rfl); (simp only [Act.put, List.setIfInBounds_toArray, List.set_cons_zero, List.set_cons_succ])) | go_big_quiet_step (((with_reducible exact Ans.quiet (by assumption)))))
        refine wpQuiet_nil ?_
        rintro _ ⟨_, rfl⟩
        go_wp2_with (first | (first | ((with_reducible show wpList _ _ _ (_ :: _) _ _); (with_reducible apply wpl_build0); (· rfl); (· rfl); (simp only [Act.put, List.setIfInBounds_toArray, List.set_cons_zero, List.set_cons_succ])) | ((with_reducible show wpList _ _ _ (_ :: _) _ _); (with_reducible apply wpl_build2); (· rfl); (· rfl); (simp only [Act.put, List.setIfInBounds_toArray, List.set_cons_zero, List.set_cons_succ])) | ((with_reducible show wpList _ _ _ (_ :: _) _ _); (with_reducible apply wpl_build3); (· rfl); (simp only [Act.put, List.setIfInBounds_toArray, List.set_cons_zero, List.set_cons_succ])) | ((with_reducible show wpList _ _ _ (_ :: _) _ _); (with_reducible apply wpl_loadR row192); (· rfl); (· rfl); (· (repeat (first | ((with_reducible refine blk_here ?_); first | with_reducible rfl | (simp only [World.size_alloc, size_ext, World.size_drew]; done)) | with_reducible refine blk_past ?_ | with_reducible refine blk_extS ?_ | with_reducible refine blk_drewS ?_))); (· (first | (simp only [bitsA_size, wholeA_size, Nat.zero_add, Nat.reduceAdd, Nat.le_refl, Nat.reduceLeDiff]; done) | with_reducible rfl | (simp; done))); (· (with_reducible first | exact bitsA_ext0 _ | exact wholeA_ext0 _ _ | exact wholeA_ext1 _ _)); (simp only [Act.put, List.setIfInBounds_toArray, List.set_cons_zero, List.set_cons_succ])) | ((with_reducible show wpList _ _ _ (_ :: _) _ _); (with_reducible apply wpl_storeR row192); (· rfl); (· rfl); (· rfl); (· with_reducible exact (bitsA_cells _)); (· (repeat (first | ((with_reducible refine blk_here ?_); first | with_reducible rfl | (simp only [World.size_alloc, size_ext, World.size_drew]; done)) | with_reducible refine blk_past ?_ | with_reducible refine blk_extS ?_ | with_reducible refine blk_drewS ?_))); (· (first | (simp only [bitsA_size, wholeA_size, Nat.zero_add, Nat.reduceAdd, Nat.le_refl, Nat.reduceLeDiff]; done) | with_reducible rfl | (simp; done))); (· (with_reducible first | exact bitsA_splice _ _ | exact wholeA_splice0 _ _ _ _ | exact wholeA_splice1 _ _ _)); (· (repeat (first | ((with_reducible apply SetTo.here); first | with_reducible rfl | (simp only [World.size_alloc, size_ext, World.size_drew]; done)) | with_reducible apply SetTo.past | with_reducible apply SetTo.ext | with_reducible apply SetTo.drew))); (simp only [Act.put, List.setIfInBounds_toArray, List.set_cons_zero, List.set_cons_succ])) | ((with_reducible show wpList _ _ _ (_ :: _) _ _); (with_reducible apply wpl_allocR row192); (· rfl); (simp only [Act.put, List.setIfInBounds_toArray, List.set_cons_zero, List.set_cons_succ, World.size_alloc, size_ext, World.size_drew])) | ((with_reducible apply ret_rowR row192); (· rfl); (· rfl); (· rfl); (· (repeat (first | ((with_reducible refine blk_here ?_); first | with_reducible rfl | (simp only [World.size_alloc, size_ext, World.size_drew]; done)) | with_reducible refine blk_past ?_ | with_reducible refine blk_extS ?_ | with_reducible refine blk_drewS ?_))); (· (first | (simp only [bitsA_size, wholeA_size, Nat.zero_add, Nat.reduceAdd, Nat.le_refl, Nat.reduceLeDiff]; done) | with_reducible rfl | (simp; done))); (exact ⟨rfl, (by repeat (first | exact Ext.refl _ | refine Ext.alloc ?_ _ | refine Ext.ext ?_ _ | refine Ext.drew ?_))⟩)) | ((with_reducible show wpList _ _ _ (_ :: _) _ _); (with_reducible apply wpl_loadR row193); (· rfl); (· rfl); (· (repeat (first | ((with_reducible refine blk_here ?_); first | with_reducible rfl | (simp only [World.size_alloc, size_ext, World.size_drew]; done)) | with_reducible refine blk_past ?_ | with_reducible refine blk_extS ?_ | with_reducible refine blk_drewS ?_))); (· (first | (simp only [bitsA_size, wholeA_size, Nat.zero_add, Nat.reduceAdd, Nat.le_refl, Nat.reduceLeDiff]; done) | with_reducible rfl | (simp; done))); (· (with_reducible first | exact bitsA_ext0 _ | exact wholeA_ext0 _ _ | exact wholeA_ext1 _ _)); (simp only [Act.put, List.setIfInBounds_toArray, List.set_cons_zero, List.set_cons_succ])) | ((with_reducible show wpList _ _ _ (_ :: _) _ _); (with_reducible apply wpl_storeR row193); (· rfl); (· rfl); (· rfl); (· with_reducible exact (wholeA_cells _ _)); (· (repeat (first | ((with_reducible refine blk_here ?_); first | with_reducible rfl | (simp only [World.size_alloc, size_ext, World.size_drew]; done)) | with_reducible refine blk_past ?_ | with_reducible refine blk_extS ?_ | with_reducible refine blk_drewS ?_))); (· (first | (simp only [bitsA_size, wholeA_size, Nat.zero_add, Nat.reduceAdd, Nat.le_refl, Nat.reduceLeDiff]; done) | with_reducible rfl | (simp; done))); (· (with_reducible first | exact bitsA_splice _ _ | exact wholeA_splice0 _ _ _ _ | exact wholeA_splice1 _ _ _)); (· (repeat (first | ((with_reducible apply SetTo.here); first | with_reducible rfl | (simp only [World.size_alloc, size_ext, World.size_drew]; done)) | with_reducible apply SetTo.past | with_reducible apply SetTo.ext | with_reducible apply SetTo.drew))); (simp only [Act.put, List.setIfInBounds_toArray, List.set_cons_zero, List.set_cons_succ])) | ((with_reducible show wpList _ _ _ (_ :: _) _ _); (with_reducible apply wpl_allocR row193); (· rfl); (simp only [Act.put, List.setIfInBounds_toArray, List.set_cons_zero, List.set_cons_succ, World.size_alloc, size_ext, World.size_drew])) | ((with_reducible apply ret_rowR row193); (· rfl); (· rfl); (· rfl); (· (repeat (first | ((with_reducible refine blk_here ?_); first | with_reducible rfl | (simp only [World.size_alloc, size_ext, World.size_drew]; done)) | with_reducible refine blk_past ?_ | with_reducible refine blk_extS ?_ | with_reducible refine blk_drewS ?_))); (· (first | (simp only [bitsA_size, wholeA_size, Nat.zero_add, Nat.reduceAdd, Nat.le_refl, Nat.reduceLeDiff]; done) | with_reducible rfl | (simp; done))); (exact ⟨rfl, (by repeat (first | exact Ext.refl _ | refine Ext.alloc ?_ _ | refine Ext.ext ?_ _ | refine Ext.drew ?_))⟩))) | ((with_reducible refine Ans.call (by assumption) ?_); intro _))
        go_roundw
        case rel =>
          have e : x * (y % 2 ^ (k + 1)) = m + x * 2 ^ k := by rw [HM.out, bit_of hb]; simp
          refine ⟨k + 1, by omega, by go_num, ?_⟩
          rw [e]
          exact ext_of (by repeat (first | exact Ext.refl _ | refine Ext.alloc ?_ _ | refine Ext.ext ?_ _ | refine Ext.drew ?_))
        case measure => simp [intOf]; omega
    · obtain rfl : k = 64 := by omega
      rw [Nat.mod_eq_of_lt HY.out]
      go_wp2_with (first | (first | ((with_reducible show wpList _ _ _ (_ :: _) _ _); (with_reducible apply wpl_build0); (· rfl); (· rfl); (simp only [Act.put, List.setIfInBounds_toArray, List.set_cons_zero, List.set_cons_succ])) | ((with_reducible show wpList _ _ _ (_ :: _) _ _); (with_reducible apply wpl_build2); (· rfl); (· rfl); (simp only [Act.put, List.setIfInBounds_toArray, List.set_cons_zero, List.set_cons_succ])) | ((with_reducible show wpList _ _ _ (_ :: _) _ _); (with_reducible apply wpl_build3); (· rfl); (simp only [Act.put, List.setIfInBounds_toArray, List.set_cons_zero, List.set_cons_succ])) | ((with_reducible show wpList _ _ _ (_ :: _) _ _); (with_reducible apply wpl_loadR row192); (· rfl); (· rfl); (· (repeat (first | ((with_reducible refine blk_here ?_); first | with_reducible rfl | (simp only [World.size_alloc, size_ext, World.size_drew]; done)) | with_reducible refine blk_past ?_ | with_reducible refine blk_extS ?_ | with_reducible refine blk_drewS ?_))); (· (first | (simp only [bitsA_size, wholeA_size, Nat.zero_add, Nat.reduceAdd, Nat.le_refl, Nat.reduceLeDiff]; done) | with_reducible rfl | (simp; done))); (· (with_reducible first | exact bitsA_ext0 _ | exact wholeA_ext0 _ _ | exact wholeA_ext1 _ _)); (simp only [Act.put, List.setIfInBounds_toArray, List.set_cons_zero, List.set_cons_succ])) | ((with_reducible show wpList _ _ _ (_ :: _) _ _); (with_reducible apply wpl_storeR row192); (· rfl); (· rfl); (· rfl); (· with_reducible exact (bitsA_cells _)); (· (repeat (first | ((with_reducible refine blk_here ?_); first | with_reducible rfl | (simp only [World.size_alloc, size_ext, World.size_drew]; done)) | with_reducible refine blk_past ?_ | with_reducible refine blk_extS ?_ | with_reducible refine blk_drewS ?_))); (· (first | (simp only [bitsA_size, wholeA_size, Nat.zero_add, Nat.reduceAdd, Nat.le_refl, Nat.reduceLeDiff]; done) | with_reducible rfl | (simp; done))); (· (with_reducible first | exact bitsA_splice _ _ | exact wholeA_splice0 _ _ _ _ | exact wholeA_splice1 _ _ _)); (· (repeat (first | ((with_reducible apply SetTo.here); first | with_reducible rfl | (simp only [World.size_alloc, size_ext, World.size_drew]; done)) | with_reducible apply SetTo.past | with_reducible apply SetTo.ext | with_reducible apply SetTo.drew))); (simp only [Act.put, List.setIfInBounds_toArray, List.set_cons_zero, List.set_cons_succ])) | ((with_reducible show wpList _ _ _ (_ :: _) _ _); (with_reducible apply wpl_allocR row192); (· rfl); (simp only [Act.put, List.setIfInBounds_toArray, List.set_cons_zero, List.set_cons_succ, World.size_alloc, size_ext, World.size_drew])) | ((with_reducible apply ret_rowR row192); (· rfl); (· rfl); (· rfl); (· (repeat (first | ((with_reducible refine blk_here ?_); first | with_reducible rfl | (simp only [World.size_alloc, size_ext, World.size_drew]; done)) | with_reducible refine blk_past ?_ | with_reducible refine blk_extS ?_ | with_reducible refine blk_drewS ?_))); (· (first | (simp only [bitsA_size, wholeA_size, Nat.zero_add, Nat.reduceAdd, Nat.le_refl, Nat.reduceLeDiff]; done) | with_reducible rfl | (simp; done))); (exact ⟨rfl, (by repeat (first | exact Ext.refl _ | refine Ext.alloc ?_ _ | refine Ext.ext ?_ _ | refine Ext.drew ?_))⟩)) | ((with_reducible show wpList _ _ _ (_ :: _) _ _); (with_reducible apply wpl_loadR row193); (· rfl); (· rfl); (· (repeat (first | ((with_reducible refine blk_here ?_); first | with_reducible rfl | (simp only [World.size_alloc, size_ext, World.size_drew]; done)) | with_reducible refine blk_past ?_ | with_reducible refine blk_extS ?_ | with_reducible refine blk_drewS ?_))); (· (first | (simp only [bitsA_size, wholeA_size, Nat.zero_add, Nat.reduceAdd, Nat.le_refl, Nat.reduceLeDiff]; done) | with_reducible rfl | (simp; done))); (· (with_reducible first | exact bitsA_ext0 _ | exact wholeA_ext0 _ _ | exact wholeA_ext1 _ _)); (simp only [Act.put, List.setIfInBounds_toArray, List.set_cons_zero, List.set_cons_succ])) | ((with_reducible show wpList _ _ _ (_ :: _) _ _); (with_reducible apply wpl_storeR row193); (· rfl); (· rfl); (· rfl); (· with_reducible exact (wholeA_cells _ _)); (· (repeat (first | ((with_reducible refine blk_here ?_); first | with_reducible rfl | (simp only [World.size_alloc, size_ext, World.size_drew]; done)) | with_reducible refine blk_past ?_ | with_reducible refine blk_extS ?_ | with_reducible refine blk_drewS ?_))); (· (first | (simp only [bitsA_size, wholeA_size, Nat.zero_add, Nat.reduceAdd, Nat.le_refl, Nat.reduceLeDiff]; done) | with_reducible rfl | (simp; done))); (· (with_reducible first | exact bitsA_splice _ _ | exact wholeA_splice0 _ _ _ _ | exact wholeA_splice1 _ _ _)); (· (repeat (first | ((with_reducible apply SetTo.here); first | with_reducible rfl | (simp only [World.size_alloc, size_ext, World.size_drew]; done)) | with_reducible apply SetTo.past | with_reducible apply SetTo.ext | with_reducible apply SetTo.drew))); (simp only [Act.put, List.setIfInBounds_toArray, List.set_cons_zero, List.set_cons_succ])) | ((with_reducible show wpList _ _ _ (_ :: _) _ _); (with_reducible apply wpl_allocR row193); (· rfl); (simp only [Act.put, List.setIfInBounds_toArray, List.set_cons_zero, List.set_cons_succ, World.size_alloc, size_ext, World.size_drew])) | ((with_reducible apply ret_rowR row193); (· rfl); (· rfl); (· rfl); (· (repeat (first | ((with_reducible refine blk_here ?_); first | with_reducible rfl | (simp only [World.size_alloc, size_ext, World.size_drew]; done)) | with_reducible refine blk_past ?_ | with_reducible refine blk_extS ?_ | with_reducible refine blk_drewS ?_))); (· (first | (simp only [bitsA_size, wholeA_size, Nat.zero_add, Nat.reduceAdd, Nat.le_refl, Nat.reduceLeDiff]; done) | with_reducible rfl | (simp; done))); (exact ⟨rfl, (by repeat (first | exact Ext.refl _ | refine Ext.alloc ?_ _ | refine Ext.ext ?_ _ | refine Ext.drew ?_))⟩))) | ((with_reducible refine Ans.call (by assumption) ?_); intro _))

end Go.Proofs.Ytacglcpjbepfnaa

/-! Held -/
/- A region that draws its order, rows loaded and stored in it: the loads first, under what holds throughout; then the stores. -/
namespace Go.Proofs.Ytacglcpjbepfnaa
open Go.RowKit

section
variable {ops : Array Oper} {md : Region.Mode} {S : World → Prop} {a : Act} {w w' : World} {Q : Exit → Act → World → Prop} {T n : Nat} {z : Array Value} {fuel i : Nat} {listed : Array Bool}
  {dst : Option Tmp} {ty : TypeId} {pos : String} {after : Array Edge} {guard : Option (Nat × Bool)} {x y : Operand} {b off : Nat} {c c0 c1 : Array Value} {t : TypeId} {f : Nat × Nat}
end
end Go.Proofs.Ytacglcpjbepfnaa

/-! Ref01d -/
/- countinghouseref01: a size by another one. -/
namespace Go.Proofs.Ytacglcpjbepfnaa
open Go.RowKit
set_option linter.unusedSimpArgs false
set_option linter.unusedVariables false
attribute [local go_sem high] bitsA_get wholeA_get

end Go.Proofs.Ytacglcpjbepfnaa

/-! Ref01e -/
/- countinghouseref01: Add, Sub, Mul. -/
namespace Go.Proofs.Ytacglcpjbepfnaa
open Go.RowKit
set_option linter.unusedSimpArgs false
set_option linter.unusedVariables false

theorem lt192 {m : Nat} (h : m ≤ 2 ^ 140) : m < 2 ^ 192 := Nat.lt_of_le_of_lt h (by decide)
theorem wholeA_set0 (s t : Bool) (x : Nat) : (wholeA s x).setIfInBounds 0 (.bool t) = wholeA t x := by
  unfold wholeA
  apply Array.ext'
  simp
attribute [local go_sem high] bitsA_get wholeA_get wholeA_set0
end Go.Proofs.Ytacglcpjbepfnaa

/-! ArrEq -/
/- Two rows of bits are the same just where each bit is. -/
namespace Go.Proofs.Ytacglcpjbepfnaa
open Go.RowKit
set_option linter.unusedSimpArgs false
set_option linter.unusedVariables false

section
variable {ops : Array Oper} {rest : List Oper} {a : Act} {w : World} {Q : Exit → Act → World → Prop} {dst : Option Tmp} {ty : TypeId} {pos : String} {after : Array Edge} {guard : Option (Nat × Bool)} {p q : Operand} {x y : Nat}
end
end Go.Proofs.Ytacglcpjbepfnaa

/-! Ref01f -/
/- countinghouseref01: Down, Up. -/
namespace Go.Proofs.Ytacglcpjbepfnaa
open Go.RowKit
set_option linter.unusedSimpArgs false
set_option linter.unusedVariables false

theorem wholeA_part1 (s : Bool) (x : Nat) : (wholeA s x).extract 1 193 = bitsA x := wholeA_ext1 s x
theorem run_field1 (s : Bool) (x : Nat) (w : World) : (Instr.field 176 (.agg (wholeA s x)) 1).run Try.prog w = .ok (.agg (bitsA x)) w := by
  have hu := Try.underlying176
  have hu2 := Try.underlying174
  have hs : (sizeOf 174).run Try.prog w = .ok 192 w := by kernel_rfl
  unfold Instr.field
  rw [Sem.run_bind, run_underlying hu]
  simp [part, isAgg, run_underlying hu2, hs, asAgg, wholeA_part1]
attribute [local go_sem high] bitsA_get wholeA_get wholeA_part1 run_field1
theorem rof_nat (A : Nat) (h : A ≤ 9223372036854775807) : Ans 131 #[.int .i64 (A : Int)] (.agg (wholeA false A)) :=
  (rof_whole (A : Int) (by omega) (by omega)).to (by rw [sgn_pos (by omega), Int.natAbs_natCast])
end Go.Proofs.Ytacglcpjbepfnaa

/-! Ref01g -/
/- countinghouseref01: Down, Up, as the program's. -/
namespace Go.Proofs.Ytacglcpjbepfnaa
open Go.RowKit
set_option linter.unusedSimpArgs false
set_option linter.unusedVariables false

end Go.Proofs.Ytacglcpjbepfnaa

/-! Sum -/
/- exacts.Sum: the sum of numbers, in 128 bits. -/
namespace Go.Proofs.Ytacglcpjbepfnaa
open Go.RowKit

end Go.Proofs.Ytacglcpjbepfnaa

/-! Lives01 -/
/- The chapter's example of exact numbers: it holds. -/
namespace Go.Proofs.Ytacglcpjbepfnaa
open Go.RowKit

end Go.Proofs.Ytacglcpjbepfnaa

/-! Two -/
/- A block of two cells: what is read of it, and what it is behind a store. -/
namespace Go.Proofs.Ytacglcpjbepfnaa
open Go.RowKit

end Go.Proofs.Ytacglcpjbepfnaa

/-! Rats -/
/- What the functions of rats come to: a rate in its lowest terms. -/
namespace Go.Proofs.Ytacglcpjbepfnaa
open Go.RowKit

instance (n d : Int) : Decidable (PosT n d) := by unfold PosT; infer_instance
end Go.Proofs.Ytacglcpjbepfnaa

/-! RatEq -/
/- Two rates are the same just where their terms are. -/
namespace Go.Proofs.Ytacglcpjbepfnaa
open Go.RowKit
end Go.Proofs.Ytacglcpjbepfnaa

/-! Rats2 -/
/- rats: which rates may be; their order; what comes of a number by them. -/
namespace Go.Proofs.Ytacglcpjbepfnaa
open Go.RowKit

attribute [local go_sem high] ratEq_run ratSame_self
end Go.Proofs.Ytacglcpjbepfnaa

/-! Rats3 -/
/- rats: the inverse of a rate; what comes of a number by a rate. -/
namespace Go.Proofs.Ytacglcpjbepfnaa
open Go.RowKit

attribute [local go_sem high] ratEq_run ratSame_self
end Go.Proofs.Ytacglcpjbepfnaa

/-! Rats4 -/
/- rats.Compare: which of two rates is less. -/
namespace Go.Proofs.Ytacglcpjbepfnaa
open Go.RowKit

end Go.Proofs.Ytacglcpjbepfnaa

/-! Ref02 -/
/- countinghouseref02: the greatest common divisor by taking off; rates. -/
namespace Go.Proofs.Ytacglcpjbepfnaa
open Go.RowKit
set_option linter.unusedSimpArgs false
set_option linter.unusedVariables false

attribute [local go_sem high] run_max1
/-- What is taken off. -/
theorem off_facts (A B : Nat) (hB : 1 ≤ B) (h : B < A) : 0 ≤ (B : Int) * max 1 ((A : Int) / B - 1) ∧ (B : Int) * max 1 ((A : Int) / B - 1) ≤ (A : Int) - 1 ∧ Nat.gcd ((A : Int) - (B : Int) * max 1 ((A : Int) / B - 1)).toNat B = Nat.gcd A B := by
  have e : (A : Int) / B = ((A / B : Nat) : Int) := by simp
  rw [e]
  have h1 : 1 ≤ A / B := (Nat.one_le_div_iff (by omega)).2 (by omega)
  have h2 := Nat.div_mul_le_self A B
  generalize A / B = q at *
  obtain ⟨k, hk, hk2⟩ : ∃ k : Nat, max 1 ((q : Int) - 1) = k ∧ B * k ≤ A - 1 := by
    by_cases hq : q ≤ 2
    · exact ⟨1, by omega, by omega⟩
    · refine ⟨q - 1, by omega, ?_⟩
      have : B * (q - 1) = q * B - B := by rw [Nat.mul_sub, Nat.mul_one, Nat.mul_comm]
      omega
  rw [hk]
  have e2 : (B : Int) * k = ((B * k : Nat) : Int) := by simp
  rw [e2]
  refine ⟨by omega, by omega, ?_⟩
  have e3 : ((A : Int) - ((B * k : Nat) : Int)).toNat = A - B * k := by omega
  rw [e3, Nat.gcd_comm, Nat.gcd_sub_mul_left_right (by omega), Nat.gcd_comm]
set_option maxRecDepth 100000 in
set_option maxHeartbeats 1000000 in
theorem common_ans (A B : Nat) (hA : 1 ≤ A) (hB : 1 ≤ B) (hA1 : A ≤ 9223372036854775807) (hB1 : B ≤ 9223372036854775807) : Ans 153 #[.int .i64 (A : Int), .int .i64 (B : Int)] (.int .i64 (Nat.gcd A B : Nat)) := by
  intro w
  have HG := Lib.hid (show Nat.gcd A B = Nat.gcd A B from rfl)
  generalize hg : Nat.gcd A B = g at *
  go_enter Try.func153, Try.ntmps153
  go_wp2_with fail
  go_loop [0, 1] (fun a b => ∃ x y : Nat, 1 ≤ x ∧ x ≤ A ∧ 1 ≤ y ∧ y ≤ B ∧ Hid (Nat.gcd x y = g) ∧ a = .int .i64 (x : Int) ∧ b = .int .i64 (y : Int)) (fun a b => (intOf a + intOf b).toNat)
  case atStart => exact ⟨A, B, hA, Nat.le_refl _, hB, Nat.le_refl _, Lib.hid hg, rfl, rfl⟩
  case round =>
    clear HG hg
    obtain ⟨x, y, hx, hx1, hy, hy1, HG, rfl, rfl⟩ := hrel
    rcases Nat.lt_trichotomy x y with h | rfl | h
    · have k1 : ((x : Int) != y) = true := by simp; omega
      have k2 : decide ((y : Int) < x) = false := by simp; omega
      obtain ⟨f1, f2, f3⟩ := off_facts y x hx h
      have q0 : 0 ≤ (y : Int) / x := Int.ediv_nonneg (by omega) (by omega)
      have q1 : (y : Int) / x ≤ y := Int.ediv_le_self _ (by omega)
      have F3 := Lib.hid f3
      clear f3
      go_wp2_with fail
      go_round
      case rel =>
        refine ⟨x, ((y : Int) - (x : Int) * max 1 ((y : Int) / x - 1)).toNat, hx, hx1, by omega, by omega, Lib.hid ?_, rfl, by congr 1; omega⟩
        rw [Nat.gcd_comm, F3.out, Nat.gcd_comm]; exact HG.out
      case measure =>
        have : 1 ≤ (x : Int) * max 1 ((y : Int) / x - 1) := by
          have := Int.mul_le_mul_of_nonneg_left (show (1 : Int) ≤ max 1 ((y : Int) / x - 1) by omega) (show (0 : Int) ≤ x by omega)
          omega
        simp [intOf]; omega
    · have k1 : ((x : Int) != x) = false := by simp
      have hg := HG.out
      rw [Nat.gcd_self] at hg
      subst hg
      go_wp2_with fail
      go_ret
      exact ⟨rfl, (by repeat (first | exact Ext.refl _ | refine Ext.alloc ?_ _ | refine Ext.ext ?_ _ | refine Ext.drew ?_))⟩
    · have k1 : ((x : Int) != y) = true := by simp; omega
      have k2 : decide ((y : Int) < x) = true := by simp; omega
      obtain ⟨f1, f2, f3⟩ := off_facts x y hy h
      have q0 : 0 ≤ (x : Int) / y := Int.ediv_nonneg (by omega) (by omega)
      have q1 : (x : Int) / y ≤ x := Int.ediv_le_self _ (by omega)
      have F3 := Lib.hid f3
      clear f3
      go_wp2_with fail
      go_round
      case rel =>
        refine ⟨((x : Int) - (y : Int) * max 1 ((x : Int) / y - 1)).toNat, y, by omega, by omega, hy, hy1, Lib.hid ?_, by congr 1; omega, rfl⟩
        rw [F3.out]; exact HG.out
      case measure =>
        have : 1 ≤ (y : Int) * max 1 ((x : Int) / y - 1) := by
          have := Int.mul_le_mul_of_nonneg_left (show (1 : Int) ≤ max 1 ((x : Int) / y - 1) by omega) (show (0 : Int) ≤ y by omega)
          omega
        simp [intOf]; omega
end Go.Proofs.Ytacglcpjbepfnaa

/-! Ref02b -/
/- countinghouseref02: Of, May, Inverse. -/
namespace Go.Proofs.Ytacglcpjbepfnaa
open Go.RowKit
set_option linter.unusedSimpArgs false
set_option linter.unusedVariables false

set_option maxRecDepth 100000 in
set_option maxHeartbeats 1000000 in
theorem rmay_ans (x y : Int) (h : In64p x y) : Ans 129 #[.agg #[.int .i64 x, .int .i64 y]] (.bool (mayB x y)) := by
  intro w
  obtain ⟨x0, x1, y0, y1⟩ := h
  by_cases h1 : x < 1
  · have k1 : decide (x < 1) = true := by simpa using h1
    rw [show mayB x y = false from decide_eq_false (fun hh => by have := hh.1.1; omega)]
    clear h1
    go_enter Try.func129, Try.ntmps129
    go_wp2_with fail
    go_ret
    exact ⟨rfl, (by repeat (first | exact Ext.refl _ | refine Ext.alloc ?_ _ | refine Ext.ext ?_ _ | refine Ext.drew ?_))⟩
  · have k1 : decide (x < 1) = false := by simpa using h1
    by_cases h2 : y < 1
    · have k2 : decide (y < 1) = true := by simpa using h2
      rw [show mayB x y = false from decide_eq_false (fun hh => by have := hh.1.2; omega)]
      clear h1 h2
      go_enter Try.func129, Try.ntmps129
      go_wp2_with fail
      go_ret
      exact ⟨rfl, (by repeat (first | exact Ext.refl _ | refine Ext.alloc ?_ _ | refine Ext.ext ?_ _ | refine Ext.drew ?_))⟩
    · have k2 : decide (y < 1) = false := by simpa using h2
      by_cases h3 : 1099511627776 < x
      · have k3 : decide (1099511627776 < x) = true := by simpa using h3
        rw [show mayB x y = false from decide_eq_false (fun hh => by have := hh.2.2.1; omega)]
        clear h1 h2 h3
        go_enter Try.func129, Try.ntmps129
        go_wp2_with fail
        go_ret
        exact ⟨rfl, (by repeat (first | exact Ext.refl _ | refine Ext.alloc ?_ _ | refine Ext.ext ?_ _ | refine Ext.drew ?_))⟩
      · have k3 : decide (1099511627776 < x) = false := by simpa using h3
        by_cases h4 : 1099511627776 < y
        · have k4 : decide (1099511627776 < y) = true := by simpa using h4
          rw [show mayB x y = false from decide_eq_false (fun hh => by have := hh.2.2.2; omega)]
          clear h1 h2 h3 h4
          go_enter Try.func129, Try.ntmps129
          go_wp2_with fail
          go_ret
          exact ⟨rfl, (by repeat (first | exact Ext.refl _ | refine Ext.alloc ?_ _ | refine Ext.ext ?_ _ | refine Ext.drew ?_))⟩
        · have k4 : decide (1099511627776 < y) = false := by simpa using h4
          obtain ⟨A, rfl⟩ : ∃ A : Nat, x = A := ⟨x.toNat, by omega⟩
          obtain ⟨B, rfl⟩ : ∃ A : Nat, y = A := ⟨y.toNat, by omega⟩
          have hc := common_ans A B (by omega) (by omega) (by omega) (by omega)
          have e : mayB (A : Int) B = (((Nat.gcd A B : Nat) : Int) == 1) := by
            unfold mayB
            rw [Bool.eq_iff_iff]
            simp only [decide_eq_true_eq, beq_iff_eq]
            constructor
            · intro hh; have := hh.2.1; rw [Int.gcd_natCast_natCast] at this; omega
            · intro hh; exact ⟨⟨by omega, by omega⟩, by rw [Int.gcd_natCast_natCast]; omega, by omega, by omega⟩
          rw [e]
          clear h1 h2 h3 h4 e
          generalize Nat.gcd A B = g at *
          go_enter Try.func129, Try.ntmps129
          go_wp2_with ((with_reducible refine Ans.call (by assumption) ?_); intro _)
          go_ret
          exact ⟨rfl, (by repeat (first | exact Ext.refl _ | refine Ext.alloc ?_ _ | refine Ext.ext ?_ _ | refine Ext.drew ?_))⟩
end Go.Proofs.Ytacglcpjbepfnaa

/-! Ref02c -/
/- countinghouseref02: Of, Compare, Down, Up. -/
namespace Go.Proofs.Ytacglcpjbepfnaa
open Go.RowKit
set_option linter.unusedSimpArgs false
set_option linter.unusedVariables false
attribute [local go_sem high] bitsA_get wholeA_get wholeA_part1 run_field1

end Go.Proofs.Ytacglcpjbepfnaa

/-! Make -/
/- A region that draws its order: operations that only read, or call what only makes memory; one that makes a row, wherever it comes among them; and, behind all of these, others in one order. One walk serves every order. -/
namespace Go.Proofs.Ytacglcpjbepfnaa
open Go.RowKit

section
variable {P : Program} {ops : Array Oper} {md : Region.Mode} {W : World} {z : Array Value} {T : TypeId}
/-- From each world behind W the operation yields v, and leaves a world behind that one. -/
def YieldsE (P : Program) (ops : Array Oper) (W : World) (o : Oper) (v : Value) (a : Act) : Prop := ∀ d, YieldsIn P ops (fun w' => ∃ e, w' = World.ext (World.ext W d) e) o v a
theorem YieldsE.of_same {o : Oper} {v : Value} {a a' : Act} (hy : YieldsE P ops W o v a) (he : execOp a'.eval o = execOp a.eval o)
    (hw : Region.wanted o (yielded ops a'.tmps) = Region.wanted o (yielded ops a.tmps)) : YieldsE P ops W o v a' := fun d => (hy d).of_same he hw
/-- The operation makes a row of these cells. -/
def MakesE (P : Program) (ops : Array Oper) (z : Array Value) (T : TypeId) (o : Oper) : Prop :=
  ∀ (a : Act) (w : World), Region.wanted o (yielded ops a.tmps) = true ∧ ∀ (K : Act → World → Prop) (Q : Exit → Act → World → Prop), K (a.put o.dst (.pointer (some ⟨w.heap.size, 0, none⟩))) (w.alloc (.cells z T)) → o.wp P a w K Q
def HeadE (P : Program) (md : Region.Mode) (ops : Array Oper) (W : World) (n m : Nat) (L : Option Nat → Array Bool → Act → Prop) : Nat → Option Nat → Array Bool → Act → Prop
  | 0, q, listed, a => L q listed a
  | f + 1, q, listed, a => Region.ready md ops listed ≠ [] ∧ ∀ i ∈ Region.ready md ops listed, i < n ∧ ∃ o, ops[i]? = some o ∧
      ((i = m ∧ ∀ p, HeadE P md ops W n m L f (some p) (listed.setIfInBounds i true) (a.put o.dst (.pointer (some ⟨p, 0, none⟩)))) ∨
       (i ≠ m ∧ ∃ v, YieldsE P ops W o v a ∧ HeadE P md ops W n m L f q (listed.setIfInBounds i true) (a.put o.dst v)))
theorem HeadE.any {n m g : Nat} {L : Option Nat → Array Bool → Act → Prop} {Q : Exit → Act → World → Prop} (hA : ∀ o, ops[m]? = some o → MakesE P ops z T o)
    (hL : ∀ q listed a w, Ext W w → (∀ p, q = some p → W.heap.size ≤ p ∧ blk w p = some (.cells z T)) → L q listed a → wpAny P md ops Q g listed a w) :
    ∀ (f : Nat) (q : Option Nat) (listed : Array Bool) (a : Act) (w : World), Ext W w → (∀ p, q = some p → W.heap.size ≤ p ∧ blk w p = some (.cells z T)) → HeadE P md ops W n m L f q listed a → wpAny P md ops Q (f + g) listed a w := by
  intro f
  induction f with
  | zero => intro q listed a w hw hq h; rw [Nat.zero_add]; exact hL _ _ _ _ hw hq h
  | succ f ih =>
    intro q listed a w hw hq h
    rw [show f + 1 + g = (f + g) + 1 by omega]
    refine ⟨fun h0 => absurd h0 h.1, fun i hi => ?_⟩
    obtain ⟨_, o, ho, h⟩ := h.2 i hi
    rcases h with ⟨rfl, h⟩ | ⟨_, v, hy, h⟩
    · unfold wpOp
      simp only [ho]
      rw [if_pos (hA o ho a w).1]
      exact .inl ((hA o ho a w).2 _ _ (ih _ _ _ _ (hw.alloc _) (fun p hp => by cases hp; exact ⟨hw.size, blk_here rfl⟩) (h _)))
    · obtain ⟨d, rfl⟩ := hw.out
      refine wpOp_of_qOp (C := fun w' => ∃ e, w' = World.ext (World.ext W d) e) (ext_of (Below.refl _ _)) (fun a' w' hw' ha' => ?_) ((hy d).qOp ho (K := fun a' => a' = a.put o.dst v) rfl)
      obtain ⟨e, rfl⟩ := hw'
      subst ha'
      exact ih _ _ _ _ (hw.ext e) (fun p hp => ⟨(hq p hp).1, blk_extS (hq p hp).2⟩) h
theorem HeadE.first {n m i : Nat} {oi : Oper} {v : Value} {L : Option Nat → Array Bool → Act → Prop} (hi : ops[i]? = some oi) (hsel : ∀ (j : Nat) (o : Oper) cs b, ops[j]? = some o → o.op ≠ .select cs b)
    (hs : Region.sinkB md ops n = true) (hc : Region.chainB md ops n = true) (hn : n < ops.size) (hin : i < n) (him : i ≠ m) (hdone : ∀ q listed a, L q listed a → ∀ j ∈ Region.ready md ops listed, n ≤ j) :
    ∀ (f : Nat) (q : Option Nat) (listed : Array Bool) (a : Act), HeadInv md ops n listed →
      (∀ j oj, ops[j]? = some oj → j ≠ i → listed.getD j true = false → (∀ e ∈ oj.after, Region.binds md e = true → e.on ≠ i) → oi.apart ops oj = true) →
      i ∈ Region.ready md ops listed → YieldsE P ops W oi v a → HeadE P md ops W n m L f q (listed.setIfInBounds i true) (a.put oi.dst v) → HeadE P md ops W n m L (f + 1) q listed a := by
  intro f
  induction f with
  | zero =>
    intro q listed a inv _ hr hy H
    refine ⟨fun h => by rw [h] at hr; simp at hr, fun j hj => ?_⟩
    have hjn : j < n := Nat.lt_of_not_le fun h => tail_waits hs hc hn inv _ i rfl hin (mem_ready.1 hr).1 j h hj
    refine ⟨hjn, ?_⟩
    by_cases e : j = i
    · subst e; exact ⟨oi, hi, .inr ⟨him, v, hy, H⟩⟩
    · have := hdone _ _ _ H j (ready_mono hj e)
      omega
  | succ f ih =>
    intro q listed a inv hfree hr hy H
    have hun := (mem_ready.1 hr).1
    refine ⟨fun h => by rw [h] at hr; simp at hr, fun j hj => ?_⟩
    have hjn : j < n := Nat.lt_of_not_le fun h => tail_waits hs hc hn inv _ i rfl hin hun j h hj
    refine ⟨hjn, ?_⟩
    by_cases e : j = i
    · subst e; exact ⟨oi, hi, .inr ⟨him, v, hy, H⟩⟩
    · obtain ⟨hjun, oj, hoj, hall⟩ := mem_ready.1 hj
      have hnot : ∀ e ∈ oj.after, Region.binds md e = true → e.on ≠ i := fun e he hb heq => by
        have := hall e he hb
        rw [heq, getD_both hun] at this
        cases this
      obtain ⟨h1, h2, h3⟩ := Oper.apart_spec (hfree j oj hoj e hjun hnot)
      have hsi := fun cs b => hsel i oi cs b hi
      have hsj := fun cs b => hsel j oj cs b hoj
      have keep : ∀ u, YieldsE P ops W oi v (a.put oj.dst u) := fun u => hy.of_same (execOp_put oi hsi a oj.dst u h3) (wanted_put oi a oj.dst u h3)
      have hfree' : ∀ k ok, ops[k]? = some ok → k ≠ i → (listed.setIfInBounds j true).getD k true = false →
          (∀ e ∈ ok.after, Region.binds md e = true → e.on ≠ i) → oi.apart ops ok = true := fun k ok hk hki hun hno => by
        refine hfree k ok hk hki ?_ hno
        by_cases hjk : j = k
        · subst hjk; exact hjun
        · rw [getD_set_ne true hjk] at hun; exact hun
      obtain ⟨_, o', ho', h⟩ := H.2 j (ready_mono hj e)
      obtain rfl : o' = oj := Option.some.inj (ho'.symm.trans hoj)
      refine ⟨o', hoj, ?_⟩
      rcases h with ⟨rfl, h⟩ | ⟨hm, u, hu, h⟩
      · refine .inl ⟨rfl, fun p => ih _ _ _ (inv.set hj hjn) hfree' (ready_mono hr (Ne.symm e)) (keep _) ?_⟩
        rw [Array.setIfInBounds_comm _ _ e, ← Act.put_comm a v _ h2]
        exact h p
      · refine .inr ⟨hm, u, hu.of_same (execOp_put o' hsj a oi.dst v h1).symm (wanted_put o' a oi.dst v h1).symm, ih _ _ _ (inv.set hj hjn) hfree' (ready_mono hr (Ne.symm e)) (keep _) ?_⟩
        rw [Array.setIfInBounds_comm _ _ e, ← Act.put_comm a v _ h2]
        exact h
theorem HeadE.last {n m : Nat} {om : Oper} {L : Option Nat → Array Bool → Act → Prop} (hom : ops[m]? = some om)
    (hs : Region.sinkB md ops n = true) (hc : Region.chainB md ops n = true) (hn : n < ops.size) (hin : m < n) (hdone : ∀ q listed a, L q listed a → ∀ j ∈ Region.ready md ops listed, n ≤ j)
    (q : Option Nat) (listed : Array Bool) (a : Act) (inv : HeadInv md ops n listed) (hr : m ∈ Region.ready md ops listed) (H : ∀ p, L (some p) (listed.setIfInBounds m true) (a.put om.dst (.pointer (some ⟨p, 0, none⟩)))) : HeadE P md ops W n m L 1 q listed a := by
  refine ⟨fun h => by rw [h] at hr; simp at hr, fun j hj => ?_⟩
  have hjn : j < n := Nat.lt_of_not_le fun h => tail_waits hs hc hn inv _ m rfl hin (mem_ready.1 hr).1 j h hj
  refine ⟨hjn, ?_⟩
  by_cases e : j = m
  · subst e; exact ⟨om, hom, .inl ⟨rfl, H⟩⟩
  · have := hdone _ _ _ (H 0) j (ready_mono hj e)
    omega
/-- The walk in the order of the text, the making last. -/
def wpER4 (P : Program) (ops : Array Oper) (W : World) (t : Option Tmp) (K : Nat → Act → Prop) : List Oper → Act → Prop
  | [], a => ∀ p, K p (a.put t (.pointer (some ⟨p, 0, none⟩)))
  | o :: l, a => ∃ v, YieldsE P ops W o v a ∧ wpER4 P ops W t K l (a.put o.dst v)
theorem HeadE.lex {n m g : Nat} {om : Oper} {K : Nat → Act → Prop} (hom : ops[m]? = some om) (hnm : n = m + 1) (hsel : Region.noSelect ops = true) (hs : Region.sinkB md ops n = true) (hc : Region.chainB md ops n = true) (hn : n < ops.size) :
    ∀ (l : List Oper) (k : Nat) (listed : Array Bool) (a : Act), (∀ j, j < l.length → l[j]? = ops[k + j]?) → k + l.length = m → HeadInv md ops n listed →
    Region.lexHead md ops g (l.length + 1) k listed = true → wpER4 P ops W om.dst K l a → HeadE P md ops W n m (fun q listed' a' => Region.seqB md ops g n listed' = true ∧ ∃ p, q = some p ∧ K p a') (l.length + 1) none listed a := by
  intro l
  induction l with
  | nil =>
    intro k listed a _ hk inv hB h
    obtain rfl : k = m := by simpa using hk
    subst hnm
    simp only [List.length_nil, Region.lexHead, Bool.and_eq_true] at hB
    exact HeadE.last hom hs hc hn (by omega) (fun _ _ _ hL => seqB_ready hL.1) none listed a inv (by simpa using hB.1.1) fun p => ⟨by simpa [Region.lexHead] using hB.2, p, rfl, h p⟩
  | cons o l ih =>
    intro k listed a hl hk inv hB h
    have h0 : ops[k]? = some o := by simpa using (hl 0 (by simp)).symm
    simp only [List.length_cons] at hk
    rw [List.length_cons, Region.lexHead] at hB
    simp only [Bool.and_eq_true] at hB
    have hr : k ∈ Region.ready md ops listed := by simpa using hB.1.1
    obtain ⟨v, hy, hK⟩ := h
    exact HeadE.first h0 (Region.noSelect_spec hsel) hs hc hn (by omega) (by omega) (fun _ _ _ hL => seqB_ready hL.1) (l.length + 1) none listed a inv (Region.free_spec h0 hB.1.2) hr hy
      (ih (k + 1) _ _ (fun j hj => by have := hl (j + 1) (by simp; omega); simpa [Nat.add_assoc, Nat.add_comm 1 j] using this) (by omega) (inv.set hr (by omega)) hB.2 hK)
theorem wp_region_make {id m : Nat} {Q : Exit → Act → World → Prop} {a : Act} {l : List Oper} {om : Oper} (hm : P.follows .mixedOrders = true) (hB : Region.lexTailB .any l.toArray (m + 1) = true) (hom : l[m]? = some om) (hA : MakesE P l.toArray z T om)
    (h : wpER4 P l.toArray W om.dst (fun p a' => ∀ w', Ext W w' → W.heap.size ≤ p → blk w' p = some (.cells z T) → wpList P l.toArray Q (l.drop (m + 1)) a' w') (l.take m) a) : (Code.region id l.toArray true).wp P Q a W := by
  simp only [Region.lexTailB, Bool.and_eq_true, decide_eq_true_eq] at hB
  obtain ⟨⟨⟨⟨hsel, hn⟩, hs⟩, hc⟩, hlex⟩ := hB
  have hn' : m + 1 < l.length := by simpa using hn
  have htl : (l.take m).length = m := by simp; omega
  have hdl : (l.drop (m + 1)).length = l.toArray.size - (m + 1) := by simp
  have H := HeadE.lex (md := .any) (g := l.toArray.size - (m + 1)) (by simpa using hom) rfl hsel hs hc hn (l.take m) 0 (Array.replicate l.toArray.size false) a (fun j hj => by
    have hj' : j < m := by rw [htl] at hj; exact hj
    simp [hj']) (by simpa using htl) ⟨by simp, fun j oj _ hl => (by rw [getD_replicate_false] at hl; cases hl), fun t _ ht => getD_in (by simpa using ht) (getD_replicate_false _ _)⟩ (by rw [htl]; exact hlex) h
  refine wp_region_any hm ?_
  have := HeadE.any (Q := Q) (z := z) (T := T) (g := l.toArray.size - (m + 1)) (fun o ho => by
      obtain rfl : o = om := Option.some.inj (ho.symm.trans (by simpa using hom))
      exact hA) (fun q listed a' w' hw' hq hL => by
    obtain ⟨h1, p, rfl, h2⟩ := hL
    have := wpAny_of_seq (md := .any) (Q' := Q) (l.drop (m + 1)) (m + 1) listed a' w' (fun j => by simp [List.getElem?_drop]) (by rw [hdl]; exact h1) (h2 w' hw' (hq p rfl).1 (hq p rfl).2)
    rwa [hdl] at this) _ _ _ _ _ (Ext.refl W).drew (fun p hp => by cases hp) H
  rwa [htl, show m + 1 + (l.toArray.size - (m + 1)) = l.toArray.size by omega] at this
theorem wpE_stepR4 {t : Option Tmp} {K : Nat → Act → Prop} {o : Oper} {l : List Oper} {a : Act} {s : Nat} (v : Value) (hd : o.dst = some s) (hlt : s < a.tmps.size)
    (h1 : ∀ d, wpQuiet P ops (fun w' => ∃ e, w' = World.ext (World.ext W d) e) (fun a' => a' = a.put o.dst v) [o] a) (h2 : wpER4 P ops W t K l (a.put o.dst v)) : wpER4 P ops W t K (o :: l) a := by
  have inj : ∀ u, a.put o.dst u = a.put o.dst v → u = v := fun u h => by
    rw [hd] at h
    have h := congrArg (fun b : Act => b.tmps[s]?) h
    simp [Act.put, hlt] at h
    exact h
  refine ⟨v, fun d => ?_, h2⟩
  have h := h1 d
  unfold wpQuiet at h
  by_cases hw : Region.wanted o (yielded ops a.tmps) = true
  · rw [if_pos hw] at h
    obtain ⟨u, hu, hk⟩ := h
    obtain rfl := inj u hk
    exact .inl ⟨hw, hu⟩
  · rw [if_neg hw] at h
    exact .inr ⟨by simpa using hw, (inj undef h).symm⟩
end
theorem makesE_row {ops : Array Oper} {T n : Nat} {z : Array Value} (RT : RowTy T n z) {dst : Option Tmp} {ty : TypeId} {pos : String} {after : Array Edge} (hw : ∀ y, Region.wanted ⟨dst, .alloc T, ty, pos, after, none⟩ y = true) : MakesE Try.prog ops z T ⟨dst, .alloc T, ty, pos, after, none⟩ := by
  refine fun a w => ⟨hw _, fun K Q h => ?_⟩
  have hz := RT.zero
  cases hi : Try.prog.info? T with
  | none => rw [hi] at hz; cases hz
  | some i =>
    rw [hi] at hz
    have hz' : i.zero = some (.agg z) := hz
    unfold Oper.wp execOp
    simp [Instr.alloc, zeroValue, typeInfo, hi, hz', newVar, newRow, Value.cells, go_sem]
    exact h
end Go.Proofs.Ytacglcpjbepfnaa

/-! Ref02e -/
/- countinghouseref02: Compare. -/
namespace Go.Proofs.Ytacglcpjbepfnaa
open Go.RowKit
set_option linter.unusedSimpArgs false
set_option linter.unusedVariables false
attribute [local go_sem high] bitsA_get wholeA_get wholeA_part1 run_field1

theorem ext_set {W w : World} {p : Nat} {c : Array Value} (h : Ext W w) (hp : W.heap.size ≤ p) : Ext W (setBlk w p c) :=
  ⟨h.os, h.tape, h.output, by rw [size_setBlk]; exact h.size, fun k hk => by rw [setBlk_block w p c k (by omega)]; exact h.block k hk⟩
theorem blk_set {w : World} {p : Nat} {c c0 : Array Value} {t : TypeId} {f : Nat × Nat} (h : blk w p = some (.cells c0 t f)) : blk (setBlk w p c) p = some (.cells c t f) := setBlk_same w p c c0 t f h
set_option maxRecDepth 100000 in
set_option maxHeartbeats 1000000 in
theorem rcmp_good (A B C D : Nat) (hA : A ≤ 1099511627776) (hB : B ≤ 1099511627776) (hC : C ≤ 1099511627776) (hD : D ≤ 1099511627776) (w : World)
    (h5 : Ans 129 #[.agg #[.int .i64 (A : Int), .int .i64 (B : Int)]] (.bool true)) (h6 : Ans 129 #[.agg #[.int .i64 (C : Int), .int .i64 (D : Int)]] (.bool true)) (n : Int) (hn : cmpI ((A * D : Nat) : Int) ((C * B : Nat) : Int) = n) :
    Calls Try.prog 117 #[.agg #[.int .i64 (A : Int), .int .i64 (B : Int)], .agg #[.int .i64 (C : Int), .int .i64 (D : Int)]] w fun e w' => e = .returned (.int .i64 n) ∧ Below w.heap.size w w' := by
  have h1 := rof_nat A (by omega)
  have h2 := rof_nat B (by omega)
  have h3 := rof_nat C (by omega)
  have h4 := rof_nat D (by omega)
  have t1 := (times_any false false A D (by omega)).to (v' := .agg (wholeA false (A * D))) rfl
  have t2 := (times_any false false C B (by omega)).to (v' := .agg (wholeA false (C * B))) rfl
  have e1 : A * D ≤ 2 ^ 140 := Nat.le_trans (Nat.mul_le_mul hA hD) (by decide)
  have e2 : C * B ≤ 2 ^ 140 := Nat.le_trans (Nat.mul_le_mul hC hB) (by decide)
  have g1 := greater_any (A * D) (C * B) (lt192 e1) (lt192 e2)
  have g2 := greater_any (C * B) (A * D) (lt192 e2) (lt192 e1)
  clear hA hB hC hD e1 e2
  generalize A * D = p at *
  generalize C * B = q at *
  go_enter Try.func117, Try.ntmps117
  go_wp2_with ((with_reducible refine Ans.call (by assumption) ?_); intro _)
  refine wp_region_make (m := 8) (z := bitsA 0) (T := 174) (by kernel_rfl) (by kernel_rfl) rfl (makesE_row row192 (fun _ => rfl)) ?_
  simp only [List.take_succ_cons, List.take_zero, List.drop_succ_cons, List.drop_zero]
  refine wpE_stepR4 (s := 15) (.pointer (some ⟨w.heap.size, 0, none⟩)) rfl (by simp) (fun d => ?_) ?_
  · go_big_quiet_step (((with_reducible exact Ans.quiet (by assumption)))); exact wpQuiet_nil rfl
  (simp only [Act.put, List.setIfInBounds_toArray, List.set_cons_zero, List.set_cons_succ])
  refine wpE_stepR4 (s := 16) (.int .i64 (A : Int)) rfl (by simp) (fun d => ?_) ?_
  · go_big_quiet_step (((with_reducible exact Ans.quiet (by assumption)))); exact wpQuiet_nil rfl
  (simp only [Act.put, List.setIfInBounds_toArray, List.set_cons_zero, List.set_cons_succ])
  refine wpE_stepR4 (s := 17) (.agg (wholeA false A)) rfl (by simp) (fun d => ?_) ?_
  · go_big_quiet_step (((with_reducible exact Ans.quiet (by assumption)))); exact wpQuiet_nil rfl
  (simp only [Act.put, List.setIfInBounds_toArray, List.set_cons_zero, List.set_cons_succ])
  refine wpE_stepR4 (s := 18) (.pointer (some ⟨w.heap.size + 1, 1, none⟩)) rfl (by simp) (fun d => ?_) ?_
  · go_big_quiet_step (((with_reducible exact Ans.quiet (by assumption)))); exact wpQuiet_nil rfl
  (simp only [Act.put, List.setIfInBounds_toArray, List.set_cons_zero, List.set_cons_succ])
  refine wpE_stepR4 (s := 19) (.int .i64 (D : Int)) rfl (by simp) (fun d => ?_) ?_
  · go_big_quiet_step (((with_reducible exact Ans.quiet (by assumption)))); exact wpQuiet_nil rfl
  (simp only [Act.put, List.setIfInBounds_toArray, List.set_cons_zero, List.set_cons_succ])
  refine wpE_stepR4 (s := 20) (.agg (wholeA false D)) rfl (by simp) (fun d => ?_) ?_
  · go_big_quiet_step (((with_reducible exact Ans.quiet (by assumption)))); exact wpQuiet_nil rfl
  (simp only [Act.put, List.setIfInBounds_toArray, List.set_cons_zero, List.set_cons_succ])
  refine wpE_stepR4 (s := 21) (.agg (wholeA false p)) rfl (by simp) (fun d => ?_) ?_
  · go_big_quiet_step (((with_reducible exact Ans.quiet (by assumption)))); exact wpQuiet_nil rfl
  (simp only [Act.put, List.setIfInBounds_toArray, List.set_cons_zero, List.set_cons_succ])
  refine wpE_stepR4 (s := 22) (.agg (bitsA p)) rfl (by simp) (fun d => ?_) ?_
  · go_big_quiet_step (((with_reducible exact Ans.quiet (by assumption)))); exact wpQuiet_nil rfl
  (simp only [Act.put, List.setIfInBounds_toArray, List.set_cons_zero, List.set_cons_succ])
  intro p5 w' hw' hp' hb'
  (simp only [Act.put, List.setIfInBounds_toArray, List.set_cons_zero, List.set_cons_succ])
  (with_reducible apply wpl_storeR row192)
  · rfl
  · rfl
  · rfl
  · exact bitsA_cells _
  · exact hb'
  · (first | (simp only [bitsA_size, wholeA_size, Nat.zero_add, Nat.reduceAdd, Nat.le_refl, Nat.reduceLeDiff]; done) | with_reducible rfl | (simp; done))
  · (with_reducible first | exact bitsA_splice _ _ | exact wholeA_splice0 _ _ _ _ | exact wholeA_splice1 _ _ _)
  · exact ⟨⟨_, hb'⟩, rfl⟩
  (simp only [Act.put, List.setIfInBounds_toArray, List.set_cons_zero, List.set_cons_succ])
  obtain ⟨d5, hd'⟩ := (ext_set (c := bitsA p) hw' hp').out
  have hp5 := blk_set (c := bitsA p) hb'
  rw [hd'] at hp5 ⊢
  clear hd' hb' hp' hw' w'
  go_wp2_with ((with_reducible refine Ans.call (by assumption) ?_); intro _)
  refine wp_region_make (m := 8) (z := bitsA 0) (T := 174) (by kernel_rfl) (by kernel_rfl) rfl (makesE_row row192 (fun _ => rfl)) ?_
  simp only [List.take_succ_cons, List.take_zero, List.drop_succ_cons, List.drop_zero]
  refine wpE_stepR4 (s := 23) (.pointer (some ⟨w.heap.size + 1, 0, none⟩)) rfl (by simp) (fun d => ?_) ?_
  · go_big_quiet_step (((with_reducible exact Ans.quiet (by assumption)))); exact wpQuiet_nil rfl
  (simp only [Act.put, List.setIfInBounds_toArray, List.set_cons_zero, List.set_cons_succ])
  refine wpE_stepR4 (s := 24) (.int .i64 (C : Int)) rfl (by simp) (fun d => ?_) ?_
  · go_big_quiet_step (((with_reducible exact Ans.quiet (by assumption)))); exact wpQuiet_nil rfl
  (simp only [Act.put, List.setIfInBounds_toArray, List.set_cons_zero, List.set_cons_succ])
  refine wpE_stepR4 (s := 25) (.agg (wholeA false C)) rfl (by simp) (fun d => ?_) ?_
  · go_big_quiet_step (((with_reducible exact Ans.quiet (by assumption)))); exact wpQuiet_nil rfl
  (simp only [Act.put, List.setIfInBounds_toArray, List.set_cons_zero, List.set_cons_succ])
  refine wpE_stepR4 (s := 26) (.pointer (some ⟨w.heap.size, 1, none⟩)) rfl (by simp) (fun d => ?_) ?_
  · go_big_quiet_step (((with_reducible exact Ans.quiet (by assumption)))); exact wpQuiet_nil rfl
  (simp only [Act.put, List.setIfInBounds_toArray, List.set_cons_zero, List.set_cons_succ])
  refine wpE_stepR4 (s := 27) (.int .i64 (B : Int)) rfl (by simp) (fun d => ?_) ?_
  · go_big_quiet_step (((with_reducible exact Ans.quiet (by assumption)))); exact wpQuiet_nil rfl
  (simp only [Act.put, List.setIfInBounds_toArray, List.set_cons_zero, List.set_cons_succ])
  refine wpE_stepR4 (s := 28) (.agg (wholeA false B)) rfl (by simp) (fun d => ?_) ?_
  · go_big_quiet_step (((with_reducible exact Ans.quiet (by assumption)))); exact wpQuiet_nil rfl
  (simp only [Act.put, List.setIfInBounds_toArray, List.set_cons_zero, List.set_cons_succ])
  refine wpE_stepR4 (s := 29) (.agg (wholeA false q)) rfl (by simp) (fun d => ?_) ?_
  · go_big_quiet_step (((with_reducible exact Ans.quiet (by assumption)))); exact wpQuiet_nil rfl
  (simp only [Act.put, List.setIfInBounds_toArray, List.set_cons_zero, List.set_cons_succ])
  refine wpE_stepR4 (s := 30) (.agg (bitsA q)) rfl (by simp) (fun d => ?_) ?_
  · go_big_quiet_step (((with_reducible exact Ans.quiet (by assumption)))); exact wpQuiet_nil rfl
  (simp only [Act.put, List.setIfInBounds_toArray, List.set_cons_zero, List.set_cons_succ])
  intro p6 w' hw' hp' hb'
  (simp only [Act.put, List.setIfInBounds_toArray, List.set_cons_zero, List.set_cons_succ])
  (with_reducible apply wpl_storeR row192)
  · rfl
  · rfl
  · rfl
  · exact bitsA_cells _
  · exact hb'
  · (first | (simp only [bitsA_size, wholeA_size, Nat.zero_add, Nat.reduceAdd, Nat.le_refl, Nat.reduceLeDiff]; done) | with_reducible rfl | (simp; done))
  · (with_reducible first | exact bitsA_splice _ _ | exact wholeA_splice0 _ _ _ _ | exact wholeA_splice1 _ _ _)
  · exact ⟨⟨_, hb'⟩, rfl⟩
  (simp only [Act.put, List.setIfInBounds_toArray, List.set_cons_zero, List.set_cons_succ])
  obtain ⟨d6, hd'⟩ := (ext_set (c := bitsA q) hw' hp').out
  have hp6 := blk_set (c := bitsA q) hb'
  rw [hd'] at hp6 ⊢
  clear hd' hb' hp' hw' w'
  rcases Nat.lt_trichotomy p q with h | rfl | h
  · obtain rfl : n = -1 := by rw [← hn]; unfold cmpI; rw [if_pos (by omega)]
    replace g1 := g1.to (show _ = Value.bool false by rw [decide_eq_false (by omega)])
    replace g2 := g2.to (show _ = Value.bool true by rw [decide_eq_true h])
    clear hn h
    go_wp2_with (first | ((with_reducible show wpList _ _ _ (_ :: _) _ _); (with_reducible apply wpl_loadR row192); (· rfl); (· rfl); (· repeat (first | (with_reducible assumption) | with_reducible apply blk_extS)); (· (first | (simp only [bitsA_size, wholeA_size, Nat.zero_add, Nat.reduceAdd, Nat.le_refl, Nat.reduceLeDiff]; done) | with_reducible rfl | (simp; done))); (· (with_reducible first | exact bitsA_ext0 _ | exact wholeA_ext0 _ _ | exact wholeA_ext1 _ _)); (simp only [Act.put, List.setIfInBounds_toArray, List.set_cons_zero, List.set_cons_succ])) | ((with_reducible refine Ans.call (by assumption) ?_); intro _))
    go_ret
    exact ⟨rfl, (by repeat (first | exact Ext.refl _ | refine Ext.alloc ?_ _ | refine Ext.ext ?_ _ | refine Ext.drew ?_))⟩
  · obtain rfl : n = 0 := by rw [← hn]; simp [cmpI]
    replace g1 := g1.to (show _ = Value.bool false by rw [decide_eq_false (by omega)])
    replace g2 := g2.to (show _ = Value.bool false by rw [decide_eq_false (by omega)])
    clear hn
    go_wp2_with (first | ((with_reducible show wpList _ _ _ (_ :: _) _ _); (with_reducible apply wpl_loadR row192); (· rfl); (· rfl); (· repeat (first | (with_reducible assumption) | with_reducible apply blk_extS)); (· (first | (simp only [bitsA_size, wholeA_size, Nat.zero_add, Nat.reduceAdd, Nat.le_refl, Nat.reduceLeDiff]; done) | with_reducible rfl | (simp; done))); (· (with_reducible first | exact bitsA_ext0 _ | exact wholeA_ext0 _ _ | exact wholeA_ext1 _ _)); (simp only [Act.put, List.setIfInBounds_toArray, List.set_cons_zero, List.set_cons_succ])) | ((with_reducible refine Ans.call (by assumption) ?_); intro _))
    go_ret
    exact ⟨rfl, (by repeat (first | exact Ext.refl _ | refine Ext.alloc ?_ _ | refine Ext.ext ?_ _ | refine Ext.drew ?_))⟩
  · obtain rfl : n = 1 := by rw [← hn]; unfold cmpI; rw [if_neg (by omega)]; simp; omega
    replace g1 := g1.to (show _ = Value.bool true by rw [decide_eq_true h])
    clear hn h g2
    go_wp2_with (first | ((with_reducible show wpList _ _ _ (_ :: _) _ _); (with_reducible apply wpl_loadR row192); (· rfl); (· rfl); (· repeat (first | (with_reducible assumption) | with_reducible apply blk_extS)); (· (first | (simp only [bitsA_size, wholeA_size, Nat.zero_add, Nat.reduceAdd, Nat.le_refl, Nat.reduceLeDiff]; done) | with_reducible rfl | (simp; done))); (· (with_reducible first | exact bitsA_ext0 _ | exact wholeA_ext0 _ _ | exact wholeA_ext1 _ _)); (simp only [Act.put, List.setIfInBounds_toArray, List.set_cons_zero, List.set_cons_succ])) | ((with_reducible refine Ans.call (by assumption) ?_); intro _))
    go_ret
    exact ⟨rfl, (by repeat (first | exact Ext.refl _ | refine Ext.alloc ?_ _ | refine Ext.ext ?_ _ | refine Ext.drew ?_))⟩
set_option maxRecDepth 100000 in
set_option maxHeartbeats 1000000 in
theorem rcmp_ans {an ad bn bd : Int} (ha : In64p an ad) (hb : In64p bn bd) : Ans 117 #[.agg #[.int .i64 an, .int .i64 ad], .agg #[.int .i64 bn, .int .i64 bd]] (.int .i64 (cmpR an ad bn bd)) := by
  intro w
  have h1 := rmay_ans an ad ha
  have h2 := rmay_ans bn bd hb
  cases hma : mayB an ad
  · rw [hma] at h1
    rw [show cmpR an ad bn bd = 0 by unfold cmpR; rw [hma]; rfl]
    clear hma ha hb h2
    go_enter Try.func117, Try.ntmps117
    go_wp2_with ((with_reducible refine Ans.call (by assumption) ?_); intro _)
    go_ret
    exact ⟨rfl, (by repeat (first | exact Ext.refl _ | refine Ext.alloc ?_ _ | refine Ext.ext ?_ _ | refine Ext.drew ?_))⟩
  · cases hmb : mayB bn bd
    · rw [hma] at h1
      rw [hmb] at h2
      rw [show cmpR an ad bn bd = 0 by unfold cmpR; rw [hma, hmb]; rfl]
      clear hma hmb ha hb
      go_enter Try.func117, Try.ntmps117
      go_wp2_with ((with_reducible refine Ans.call (by assumption) ?_); intro _)
      go_ret
      exact ⟨rfl, (by repeat (first | exact Ext.refl _ | refine Ext.alloc ?_ _ | refine Ext.ext ?_ _ | refine Ext.drew ?_))⟩
    · rw [show cmpR an ad bn bd = cmpI (an * bd) (bn * ad) by unfold cmpR; rw [hma, hmb]; rfl]
      rw [hma] at h1
      rw [hmb] at h2
      obtain ⟨a1, a2, a3, a4⟩ := may_facts hma
      obtain ⟨b1, b2, b3, b4⟩ := may_facts hmb
      clear ha hb hma hmb
      obtain ⟨A, rfl⟩ : ∃ A : Nat, an = A := ⟨an.toNat, by omega⟩
      obtain ⟨B, rfl⟩ : ∃ A : Nat, ad = A := ⟨ad.toNat, by omega⟩
      obtain ⟨C, rfl⟩ : ∃ A : Nat, bn = A := ⟨bn.toNat, by omega⟩
      obtain ⟨D, rfl⟩ : ∃ A : Nat, bd = A := ⟨bd.toNat, by omega⟩
      exact rcmp_good A B C D (by omega) (by omega) (by omega) (by omega) w h1 h2 _ (by simp)
end Go.Proofs.Ytacglcpjbepfnaa

