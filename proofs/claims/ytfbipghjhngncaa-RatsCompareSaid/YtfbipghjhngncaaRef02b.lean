/- countinghouseref02: Of, May, Inverse. -/
import Derived.Test.YtfbipghjhngncaaRef02
namespace Go.Proofs.Ytfbipghjhngncaa
open Go.RowKit
set_option linter.unusedSimpArgs false
set_option linter.unusedVariables false

theorem rowRat : RowTy 42 2 #[.int .i64 0, .int .i64 0] := ⟨⟨_, Try.underlying42, rfl⟩, by kernel_rfl, by kernel_rfl⟩
theorem gcd_le {A B : Nat} (hA : 1 ≤ A) (hB : 1 ≤ B) : 1 ≤ Nat.gcd A B ∧ Nat.gcd A B ≤ A ∧ Nat.gcd A B ≤ B :=
  ⟨Nat.gcd_pos_of_pos_left _ hA, Nat.gcd_le_left _ hA, Nat.gcd_le_right _ hB⟩
set_option maxRecDepth 100000 in
set_option maxHeartbeats 1000000 in
theorem rmay_ans (x y : Int) (h : In64p x y) : Ans 35 #[.agg #[.int .i64 x, .int .i64 y]] (.bool (mayB x y)) := by
  intro w
  obtain ⟨x0, x1, y0, y1⟩ := h
  by_cases h1 : x < 1
  · have k1 : decide (x < 1) = true := by simpa using h1
    rw [show mayB x y = false from decide_eq_false (fun hh => by have := hh.1.1; omega)]
    clear h1
    go_enter Try.func35, Try.ntmps35
    go_wp2_with fail
    go_ret
    exact ⟨rfl, (by repeat (first | exact Ext.refl _ | refine Ext.alloc ?_ _ | refine Ext.ext ?_ _ | refine Ext.drew ?_))⟩
  · have k1 : decide (x < 1) = false := by simpa using h1
    by_cases h2 : y < 1
    · have k2 : decide (y < 1) = true := by simpa using h2
      rw [show mayB x y = false from decide_eq_false (fun hh => by have := hh.1.2; omega)]
      clear h1 h2
      go_enter Try.func35, Try.ntmps35
      go_wp2_with fail
      go_ret
      exact ⟨rfl, (by repeat (first | exact Ext.refl _ | refine Ext.alloc ?_ _ | refine Ext.ext ?_ _ | refine Ext.drew ?_))⟩
    · have k2 : decide (y < 1) = false := by simpa using h2
      by_cases h3 : 1099511627776 < x
      · have k3 : decide (1099511627776 < x) = true := by simpa using h3
        rw [show mayB x y = false from decide_eq_false (fun hh => by have := hh.2.2.1; omega)]
        clear h1 h2 h3
        go_enter Try.func35, Try.ntmps35
        go_wp2_with fail
        go_ret
        exact ⟨rfl, (by repeat (first | exact Ext.refl _ | refine Ext.alloc ?_ _ | refine Ext.ext ?_ _ | refine Ext.drew ?_))⟩
      · have k3 : decide (1099511627776 < x) = false := by simpa using h3
        by_cases h4 : 1099511627776 < y
        · have k4 : decide (1099511627776 < y) = true := by simpa using h4
          rw [show mayB x y = false from decide_eq_false (fun hh => by have := hh.2.2.2; omega)]
          clear h1 h2 h3 h4
          go_enter Try.func35, Try.ntmps35
          go_wp2_with fail
          go_ret
          exact ⟨rfl, (by repeat (first | exact Ext.refl _ | refine Ext.alloc ?_ _ | refine Ext.ext ?_ _ | refine Ext.drew ?_))⟩
        · have k4 : decide (1099511627776 < y) = false := by simpa using h4
          obtain ⟨A, rfl⟩ : ∃ A : Nat, x = A := ⟨x.toNat, by omega⟩
          obtain ⟨B, rfl⟩ : ∃ A : Nat, y = A := ⟨y.toNat, by omega⟩
          have hc := common_ans A B (by omega) (by omega) (by omega) (by omega)
          have e : mayB (A : Int) B = (((Nat.gcd A B : Nat) : Int) == 1) := by
            unfold mayB
            rw [Bool.eq_iff_iff]
            simp only [decide_eq_true_eq, beq_iff_eq]
            constructor
            · intro hh; have := hh.2.1; rw [Int.gcd_natCast_natCast] at this; omega
            · intro hh; exact ⟨⟨by omega, by omega⟩, by rw [Int.gcd_natCast_natCast]; omega, by omega, by omega⟩
          rw [e]
          clear h1 h2 h3 h4 e
          generalize Nat.gcd A B = g at *
          go_enter Try.func35, Try.ntmps35
          go_wp2_with ((with_reducible refine Ans.call (by assumption) ?_); intro _)
          go_ret
          exact ⟨rfl, (by repeat (first | exact Ext.refl _ | refine Ext.alloc ?_ _ | refine Ext.ext ?_ _ | refine Ext.drew ?_))⟩
set_option maxRecDepth 100000 in
set_option maxHeartbeats 1000000 in
theorem rinverse_ans (x y : Int) (h : In64p x y) : Ans 37 #[.agg #[.int .i64 x, .int .i64 y]] (invV x y) := by
  intro w
  have hm := rmay_ans x y h
  clear h
  cases hb : mayB x y
  · rw [show invV x y = .agg #[.int .i64 0, .int .i64 0] by unfold invV; rw [hb]; rfl]
    rw [hb] at hm
    clear hb
    go_enter Try.func37, Try.ntmps37
    go_wp2_with (first | ((with_reducible refine Ans.call (by assumption) ?_); intro _) | ((with_reducible apply ret_rowR rowRat); (· rfl); (· rfl); (· rfl); (· (repeat (first | ((with_reducible refine blk_here ?_); first | with_reducible rfl | (simp only [World.size_alloc, size_ext, World.size_drew]; done)) | with_reducible refine blk_past ?_ | with_reducible refine blk_extS ?_ | with_reducible refine blk_drewS ?_))); (· (first | (simp only [bitsA_size, wholeA_size, Nat.zero_add, Nat.reduceAdd, Nat.le_refl, Nat.reduceLeDiff]; done) | with_reducible rfl | (simp; done))); (exact ⟨rfl, (by repeat (first | exact Ext.refl _ | refine Ext.alloc ?_ _ | refine Ext.ext ?_ _ | refine Ext.drew ?_))⟩)))
  · rw [show invV x y = .agg #[.int .i64 y, .int .i64 x] by unfold invV; rw [hb]; rfl]
    rw [hb] at hm
    clear hb
    go_enter Try.func37, Try.ntmps37
    go_wp2_with (first | ((with_reducible refine Ans.call (by assumption) ?_); intro _) | ((with_reducible apply ret_rowR rowRat); (· rfl); (· rfl); (· rfl); (· (repeat (first | ((with_reducible refine blk_here ?_); first | with_reducible rfl | (simp only [World.size_alloc, size_ext, World.size_drew]; done)) | with_reducible refine blk_past ?_ | with_reducible refine blk_extS ?_ | with_reducible refine blk_drewS ?_))); (· (first | (simp only [bitsA_size, wholeA_size, Nat.zero_add, Nat.reduceAdd, Nat.le_refl, Nat.reduceLeDiff]; done) | with_reducible rfl | (simp; done))); (exact ⟨rfl, (by repeat (first | exact Ext.refl _ | refine Ext.alloc ?_ _ | refine Ext.ext ?_ _ | refine Ext.drew ?_))⟩)))
end Go.Proofs.Ytfbipghjhngncaa
