/- countinghouseref02: Of, Compare, Down, Up. -/
import Derived.Test.YtfbipghjhngncaaRef02b
namespace Go.Proofs.Ytfbipghjhngncaa
open Go.RowKit
set_option linter.unusedSimpArgs false
set_option linter.unusedVariables false
attribute [local go_sem high] bitsA_get wholeA_get wholeA_part1 run_field1

theorem low_nat {A B : Nat} (hA : 1 ≤ A) (hB : 1 ≤ B) : lowN (A : Int) B = (A : Int) / (Nat.gcd A B : Nat) ∧ lowD (A : Int) B = (B : Int) / (Nat.gcd A B : Nat) := by
  unfold lowN lowD
  rw [if_pos ⟨by omega, by omega⟩, if_pos ⟨by omega, by omega⟩, Int.gcd_natCast_natCast]; exact ⟨rfl, rfl⟩
set_option maxRecDepth 100000 in
set_option maxHeartbeats 2000000 in
theorem refof_ans (x y : Int) (h : In64p x y) : Ans 33 #[.int .i64 x, .int .i64 y] (rof x y) := by
  intro w
  obtain ⟨x0, x1, y0, y1⟩ := h
  by_cases h1 : x < 1
  · have k1 : decide (x < 1) = true := by simpa using h1
    have hp : ¬ PosT x y := fun hh => by have := hh.1; omega
    rw [show rof x y = .tuple #[.agg #[.int .i64 0, .int .i64 0], .int .i64 1] by unfold rof; rw [if_neg hp, if_neg hp]; rfl]
    clear h1 hp
    go_enter Try.func33, Try.ntmps33
    go_wp2_with ((with_reducible apply ret_rowT rowRat); (· rfl); (· rfl); (· rfl); (· rfl); (· (repeat (first | ((with_reducible refine blk_here ?_); first | with_reducible rfl | (simp only [World.size_alloc, size_ext, World.size_drew]; done)) | with_reducible refine blk_past ?_ | with_reducible refine blk_extS ?_ | with_reducible refine blk_drewS ?_))); (· (first | (simp only [bitsA_size, wholeA_size, Nat.zero_add, Nat.reduceAdd, Nat.le_refl, Nat.reduceLeDiff]; done) | with_reducible rfl | (simp; done))); (exact ⟨rfl, (by repeat (first | exact Ext.refl _ | refine Ext.alloc ?_ _ | refine Ext.ext ?_ _ | refine Ext.drew ?_))⟩))
  · have k1 : decide (x < 1) = false := by simpa using h1
    by_cases h2 : y < 1
    · have k2 : decide (y < 1) = true := by simpa using h2
      have hp : ¬ PosT x y := fun hh => by have := hh.2; omega
      rw [show rof x y = .tuple #[.agg #[.int .i64 0, .int .i64 0], .int .i64 1] by unfold rof; rw [if_neg hp, if_neg hp]; rfl]
      clear h1 h2 hp
      go_enter Try.func33, Try.ntmps33
      go_wp2_with ((with_reducible apply ret_rowT rowRat); (· rfl); (· rfl); (· rfl); (· rfl); (· (repeat (first | ((with_reducible refine blk_here ?_); first | with_reducible rfl | (simp only [World.size_alloc, size_ext, World.size_drew]; done)) | with_reducible refine blk_past ?_ | with_reducible refine blk_extS ?_ | with_reducible refine blk_drewS ?_))); (· (first | (simp only [bitsA_size, wholeA_size, Nat.zero_add, Nat.reduceAdd, Nat.le_refl, Nat.reduceLeDiff]; done) | with_reducible rfl | (simp; done))); (exact ⟨rfl, (by repeat (first | exact Ext.refl _ | refine Ext.alloc ?_ _ | refine Ext.ext ?_ _ | refine Ext.drew ?_))⟩))
    · have k2 : decide (y < 1) = false := by simpa using h2
      have hp : PosT x y := ⟨by omega, by omega⟩
      obtain ⟨A, rfl⟩ : ∃ A : Nat, x = A := ⟨x.toNat, by omega⟩
      obtain ⟨B, rfl⟩ : ∃ A : Nat, y = A := ⟨y.toNat, by omega⟩
      have hc := common_ans A B (by omega) (by omega) (by omega) (by omega)
      have hl := low_nat (A := A) (B := B) (by omega) (by omega)
      have hg := gcd_le (A := A) (B := B) (by omega) (by omega)
      unfold rof bigT
      rw [if_pos hp, if_pos hp, hl.1, hl.2]
      clear hp hl h1 h2
      generalize Nat.gcd A B = g at *
      obtain ⟨g1, g2, g3⟩ := hg
      have kg : ((g : Int) == 0) = false := by simp; omega
      have p0 : 0 ≤ (A : Int) / g := Int.ediv_nonneg (by omega) (by omega)
      have p1 : (A : Int) / g ≤ A := Int.ediv_le_self _ (by omega)
      have q0 : 0 ≤ (B : Int) / g := Int.ediv_nonneg (by omega) (by omega)
      have q1 : (B : Int) / g ≤ B := Int.ediv_le_self _ (by omega)
      by_cases hb : 1099511627776 < max ((A : Int) / g) ((B : Int) / g)
      · rw [if_pos (decide_eq_true hb), if_pos (decide_eq_true hb)]
        by_cases hb1 : 1099511627776 < (A : Int) / g
        · have kb : decide (1099511627776 < (A : Int) / g) = true := by simpa using hb1
          clear hb hb1
          go_enter Try.func33, Try.ntmps33
          go_wp2_with (first | ((with_reducible refine Ans.call (by assumption) ?_); intro _) | ((with_reducible apply ret_rowT rowRat); (· rfl); (· rfl); (· rfl); (· rfl); (· (repeat (first | ((with_reducible refine blk_here ?_); first | with_reducible rfl | (simp only [World.size_alloc, size_ext, World.size_drew]; done)) | with_reducible refine blk_past ?_ | with_reducible refine blk_extS ?_ | with_reducible refine blk_drewS ?_))); (· (first | (simp only [bitsA_size, wholeA_size, Nat.zero_add, Nat.reduceAdd, Nat.le_refl, Nat.reduceLeDiff]; done) | with_reducible rfl | (simp; done))); (exact ⟨rfl, (by repeat (first | exact Ext.refl _ | refine Ext.alloc ?_ _ | refine Ext.ext ?_ _ | refine Ext.drew ?_))⟩)))
        · have kb : decide (1099511627776 < (A : Int) / g) = false := by simpa using hb1
          have kb2 : decide (1099511627776 < (B : Int) / g) = true := by simp; omega
          clear hb hb1
          go_enter Try.func33, Try.ntmps33
          go_wp2_with (first | ((with_reducible refine Ans.call (by assumption) ?_); intro _) | ((with_reducible apply ret_rowT rowRat); (· rfl); (· rfl); (· rfl); (· rfl); (· (repeat (first | ((with_reducible refine blk_here ?_); first | with_reducible rfl | (simp only [World.size_alloc, size_ext, World.size_drew]; done)) | with_reducible refine blk_past ?_ | with_reducible refine blk_extS ?_ | with_reducible refine blk_drewS ?_))); (· (first | (simp only [bitsA_size, wholeA_size, Nat.zero_add, Nat.reduceAdd, Nat.le_refl, Nat.reduceLeDiff]; done) | with_reducible rfl | (simp; done))); (exact ⟨rfl, (by repeat (first | exact Ext.refl _ | refine Ext.alloc ?_ _ | refine Ext.ext ?_ _ | refine Ext.drew ?_))⟩)))
      · rw [if_neg (by simpa using hb), if_neg (by simpa using hb)]
        have kb : decide (1099511627776 < (A : Int) / g) = false := by simp; omega
        have kb2 : decide (1099511627776 < (B : Int) / g) = false := by simp; omega
        clear hb
        go_enter Try.func33, Try.ntmps33
        go_wp2_with ((with_reducible refine Ans.call (by assumption) ?_); intro _)
        go_region
        go_wp2_with ((with_reducible apply ret_rowT rowRat); (· rfl); (· rfl); (· rfl); (· rfl); (· (repeat (first | ((with_reducible refine blk_here ?_); first | with_reducible rfl | (simp only [World.size_alloc, size_ext, World.size_drew]; done)) | with_reducible refine blk_past ?_ | with_reducible refine blk_extS ?_ | with_reducible refine blk_drewS ?_))); (· (first | (simp only [bitsA_size, wholeA_size, Nat.zero_add, Nat.reduceAdd, Nat.le_refl, Nat.reduceLeDiff]; done) | with_reducible rfl | (simp; done))); (exact ⟨rfl, (by repeat (first | exact Ext.refl _ | refine Ext.alloc ?_ _ | refine Ext.ext ?_ _ | refine Ext.drew ?_))⟩))
set_option maxRecDepth 100000 in
set_option maxHeartbeats 1000000 in
theorem ref2down_ans (a x y : Int) (ha : I64 a) (h : In64p x y) : Ans 42 #[.int .i64 a, .agg #[.int .i64 x, .int .i64 y]] (if mayB x y then pairV (downN a x y) (downE a x y) else pairV 0 1) := by
  intro w
  have hm := rmay_ans x y h
  have hd := rdown_ans a x y ha ⟨h.1, h.2.1⟩ ⟨h.2.2.1, h.2.2.2⟩
  clear h ha
  generalize downN a x y = n1 at *
  generalize downE a x y = m1 at *
  cases hb : mayB x y
  all_goals
    rw [hb] at hm
    clear hb
    go_enter Try.func42, Try.ntmps42
    go_wp2_with ((with_reducible refine Ans.call (by assumption) ?_); intro _)
    go_ret2
    exact ⟨rfl, (by repeat (first | exact Ext.refl _ | refine Ext.alloc ?_ _ | refine Ext.ext ?_ _ | refine Ext.drew ?_))⟩
set_option maxRecDepth 100000 in
set_option maxHeartbeats 1000000 in
theorem ref2up_ans (a x y : Int) (ha : I64 a) (h : In64p x y) : Ans 44 #[.int .i64 a, .agg #[.int .i64 x, .int .i64 y]] (if mayB x y then pairV (upN a x y) (upE a x y) else pairV 0 1) := by
  intro w
  have hm := rmay_ans x y h
  have hd := rup_ans a x y ha ⟨h.1, h.2.1⟩ ⟨h.2.2.1, h.2.2.2⟩
  clear h ha
  generalize upN a x y = n1 at *
  generalize upE a x y = m1 at *
  cases hb : mayB x y
  all_goals
    rw [hb] at hm
    clear hb
    go_enter Try.func44, Try.ntmps44
    go_wp2_with ((with_reducible refine Ans.call (by assumption) ?_); intro _)
    go_ret2
    exact ⟨rfl, (by repeat (first | exact Ext.refl _ | refine Ext.alloc ?_ _ | refine Ext.ext ?_ _ | refine Ext.drew ?_))⟩
end Go.Proofs.Ytfbipghjhngncaa
