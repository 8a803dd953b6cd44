/- countinghouseref02: Compare. -/
import Derived.Test.YtfbipghjhngncaaRef02c
import Derived.Test.YtfbipghjhngncaaMake
import Derived.Test.YtfbipghjhngncaaRats4
namespace Go.Proofs.Ytfbipghjhngncaa
open Go.RowKit
set_option linter.unusedSimpArgs false
set_option linter.unusedVariables false
attribute [local go_sem high] bitsA_get wholeA_get wholeA_part1 run_field1

theorem ext_set {W w : World} {p : Nat} {c : Array Value} (h : Ext W w) (hp : W.heap.size ≤ p) : Ext W (setBlk w p c) :=
  ⟨h.os, h.tape, h.output, by rw [size_setBlk]; exact h.size, fun k hk => by rw [setBlk_block w p c k (by omega)]; exact h.block k hk⟩
theorem blk_set {w : World} {p : Nat} {c c0 : Array Value} {t : TypeId} {f : Nat × Nat} (h : blk w p = some (.cells c0 t f)) : blk (setBlk w p c) p = some (.cells c t f) := setBlk_same w p c c0 t f h
set_option maxRecDepth 100000 in
set_option maxHeartbeats 1000000 in
theorem rcmp_good (A B C D : Nat) (hA : A ≤ 1099511627776) (hB : B ≤ 1099511627776) (hC : C ≤ 1099511627776) (hD : D ≤ 1099511627776) (w : World)
    (h5 : Ans 35 #[.agg #[.int .i64 (A : Int), .int .i64 (B : Int)]] (.bool true)) (h6 : Ans 35 #[.agg #[.int .i64 (C : Int), .int .i64 (D : Int)]] (.bool true)) (n : Int) (hn : cmpI ((A * D : Nat) : Int) ((C * B : Nat) : Int) = n) :
    Calls Try.prog 40 #[.agg #[.int .i64 (A : Int), .int .i64 (B : Int)], .agg #[.int .i64 (C : Int), .int .i64 (D : Int)]] w fun e w' => e = .returned (.int .i64 n) ∧ Below w.heap.size w w' := by
  have h1 := rof_nat A (by omega)
  have h2 := rof_nat B (by omega)
  have h3 := rof_nat C (by omega)
  have h4 := rof_nat D (by omega)
  have t1 := (times_any false false A D (by omega)).to (v' := .agg (wholeA false (A * D))) rfl
  have t2 := (times_any false false C B (by omega)).to (v' := .agg (wholeA false (C * B))) rfl
  have e1 : A * D ≤ 2 ^ 140 := Nat.le_trans (Nat.mul_le_mul hA hD) (by decide)
  have e2 : C * B ≤ 2 ^ 140 := Nat.le_trans (Nat.mul_le_mul hC hB) (by decide)
  have g1 := greater_any (A * D) (C * B) (lt192 e1) (lt192 e2)
  have g2 := greater_any (C * B) (A * D) (lt192 e2) (lt192 e1)
  clear hA hB hC hD e1 e2
  generalize A * D = p at *
  generalize C * B = q at *
  go_enter Try.func40, Try.ntmps40
  go_wp2_with ((with_reducible refine Ans.call (by assumption) ?_); intro _)
  refine wp_region_make (m := 8) (z := bitsA 0) (T := 57) (by kernel_rfl) (by kernel_rfl) rfl (makesE_row row192 (fun _ => rfl)) ?_
  simp only [List.take_succ_cons, List.take_zero, List.drop_succ_cons, List.drop_zero]
  refine wpE_step (s := 15) (.pointer (some ⟨w.heap.size, 0, none⟩)) rfl (by simp) (fun d => ?_) ?_
  · go_big_quiet_step (((with_reducible exact Ans.quiet (by assumption)))); exact wpQuiet_nil rfl
  (simp only [Act.put, List.setIfInBounds_toArray, List.set_cons_zero, List.set_cons_succ])
  refine wpE_step (s := 16) (.int .i64 (A : Int)) rfl (by simp) (fun d => ?_) ?_
  · go_big_quiet_step (((with_reducible exact Ans.quiet (by assumption)))); exact wpQuiet_nil rfl
  (simp only [Act.put, List.setIfInBounds_toArray, List.set_cons_zero, List.set_cons_succ])
  refine wpE_step (s := 17) (.agg (wholeA false A)) rfl (by simp) (fun d => ?_) ?_
  · go_big_quiet_step (((with_reducible exact Ans.quiet (by assumption)))); exact wpQuiet_nil rfl
  (simp only [Act.put, List.setIfInBounds_toArray, List.set_cons_zero, List.set_cons_succ])
  refine wpE_step (s := 18) (.pointer (some ⟨w.heap.size + 1, 1, none⟩)) rfl (by simp) (fun d => ?_) ?_
  · go_big_quiet_step (((with_reducible exact Ans.quiet (by assumption)))); exact wpQuiet_nil rfl
  (simp only [Act.put, List.setIfInBounds_toArray, List.set_cons_zero, List.set_cons_succ])
  refine wpE_step (s := 19) (.int .i64 (D : Int)) rfl (by simp) (fun d => ?_) ?_
  · go_big_quiet_step (((with_reducible exact Ans.quiet (by assumption)))); exact wpQuiet_nil rfl
  (simp only [Act.put, List.setIfInBounds_toArray, List.set_cons_zero, List.set_cons_succ])
  refine wpE_step (s := 20) (.agg (wholeA false D)) rfl (by simp) (fun d => ?_) ?_
  · go_big_quiet_step (((with_reducible exact Ans.quiet (by assumption)))); exact wpQuiet_nil rfl
  (simp only [Act.put, List.setIfInBounds_toArray, List.set_cons_zero, List.set_cons_succ])
  refine wpE_step (s := 21) (.agg (wholeA false p)) rfl (by simp) (fun d => ?_) ?_
  · go_big_quiet_step (((with_reducible exact Ans.quiet (by assumption)))); exact wpQuiet_nil rfl
  (simp only [Act.put, List.setIfInBounds_toArray, List.set_cons_zero, List.set_cons_succ])
  refine wpE_step (s := 22) (.agg (bitsA p)) rfl (by simp) (fun d => ?_) ?_
  · go_big_quiet_step (((with_reducible exact Ans.quiet (by assumption)))); exact wpQuiet_nil rfl
  (simp only [Act.put, List.setIfInBounds_toArray, List.set_cons_zero, List.set_cons_succ])
  intro p5 w' hw' hp' hb'
  (simp only [Act.put, List.setIfInBounds_toArray, List.set_cons_zero, List.set_cons_succ])
  (with_reducible apply wpl_storeR row192)
  · rfl
  · rfl
  · rfl
  · exact bitsA_cells _
  · exact hb'
  · (first | (simp only [bitsA_size, wholeA_size, Nat.zero_add, Nat.reduceAdd, Nat.le_refl, Nat.reduceLeDiff]; done) | with_reducible rfl | (simp; done))
  · (with_reducible first | exact bitsA_splice _ _ | exact wholeA_splice0 _ _ _ _ | exact wholeA_splice1 _ _ _)
  · exact ⟨⟨_, hb'⟩, rfl⟩
  (simp only [Act.put, List.setIfInBounds_toArray, List.set_cons_zero, List.set_cons_succ])
  obtain ⟨d5, hd'⟩ := (ext_set (c := bitsA p) hw' hp').out
  have hp5 := blk_set (c := bitsA p) hb'
  rw [hd'] at hp5 ⊢
  clear hd' hb' hp' hw' w'
  go_wp2_with ((with_reducible refine Ans.call (by assumption) ?_); intro _)
  refine wp_region_make (m := 8) (z := bitsA 0) (T := 57) (by kernel_rfl) (by kernel_rfl) rfl (makesE_row row192 (fun _ => rfl)) ?_
  simp only [List.take_succ_cons, List.take_zero, List.drop_succ_cons, List.drop_zero]
  refine wpE_step (s := 23) (.pointer (some ⟨w.heap.size + 1, 0, none⟩)) rfl (by simp) (fun d => ?_) ?_
  · go_big_quiet_step (((with_reducible exact Ans.quiet (by assumption)))); exact wpQuiet_nil rfl
  (simp only [Act.put, List.setIfInBounds_toArray, List.set_cons_zero, List.set_cons_succ])
  refine wpE_step (s := 24) (.int .i64 (C : Int)) rfl (by simp) (fun d => ?_) ?_
  · go_big_quiet_step (((with_reducible exact Ans.quiet (by assumption)))); exact wpQuiet_nil rfl
  (simp only [Act.put, List.setIfInBounds_toArray, List.set_cons_zero, List.set_cons_succ])
  refine wpE_step (s := 25) (.agg (wholeA false C)) rfl (by simp) (fun d => ?_) ?_
  · go_big_quiet_step (((with_reducible exact Ans.quiet (by assumption)))); exact wpQuiet_nil rfl
  (simp only [Act.put, List.setIfInBounds_toArray, List.set_cons_zero, List.set_cons_succ])
  refine wpE_step (s := 26) (.pointer (some ⟨w.heap.size, 1, none⟩)) rfl (by simp) (fun d => ?_) ?_
  · go_big_quiet_step (((with_reducible exact Ans.quiet (by assumption)))); exact wpQuiet_nil rfl
  (simp only [Act.put, List.setIfInBounds_toArray, List.set_cons_zero, List.set_cons_succ])
  refine wpE_step (s := 27) (.int .i64 (B : Int)) rfl (by simp) (fun d => ?_) ?_
  · go_big_quiet_step (((with_reducible exact Ans.quiet (by assumption)))); exact wpQuiet_nil rfl
  (simp only [Act.put, List.setIfInBounds_toArray, List.set_cons_zero, List.set_cons_succ])
  refine wpE_step (s := 28) (.agg (wholeA false B)) rfl (by simp) (fun d => ?_) ?_
  · go_big_quiet_step (((with_reducible exact Ans.quiet (by assumption)))); exact wpQuiet_nil rfl
  (simp only [Act.put, List.setIfInBounds_toArray, List.set_cons_zero, List.set_cons_succ])
  refine wpE_step (s := 29) (.agg (wholeA false q)) rfl (by simp) (fun d => ?_) ?_
  · go_big_quiet_step (((with_reducible exact Ans.quiet (by assumption)))); exact wpQuiet_nil rfl
  (simp only [Act.put, List.setIfInBounds_toArray, List.set_cons_zero, List.set_cons_succ])
  refine wpE_step (s := 30) (.agg (bitsA q)) rfl (by simp) (fun d => ?_) ?_
  · go_big_quiet_step (((with_reducible exact Ans.quiet (by assumption)))); exact wpQuiet_nil rfl
  (simp only [Act.put, List.setIfInBounds_toArray, List.set_cons_zero, List.set_cons_succ])
  intro p6 w' hw' hp' hb'
  (simp only [Act.put, List.setIfInBounds_toArray, List.set_cons_zero, List.set_cons_succ])
  (with_reducible apply wpl_storeR row192)
  · rfl
  · rfl
  · rfl
  · exact bitsA_cells _
  · exact hb'
  · (first | (simp only [bitsA_size, wholeA_size, Nat.zero_add, Nat.reduceAdd, Nat.le_refl, Nat.reduceLeDiff]; done) | with_reducible rfl | (simp; done))
  · (with_reducible first | exact bitsA_splice _ _ | exact wholeA_splice0 _ _ _ _ | exact wholeA_splice1 _ _ _)
  · exact ⟨⟨_, hb'⟩, rfl⟩
  (simp only [Act.put, List.setIfInBounds_toArray, List.set_cons_zero, List.set_cons_succ])
  obtain ⟨d6, hd'⟩ := (ext_set (c := bitsA q) hw' hp').out
  have hp6 := blk_set (c := bitsA q) hb'
  rw [hd'] at hp6 ⊢
  clear hd' hb' hp' hw' w'
  rcases Nat.lt_trichotomy p q with h | rfl | h
  · obtain rfl : n = -1 := by rw [← hn]; unfold cmpI; rw [if_pos (by omega)]
    replace g1 := g1.to (show _ = Value.bool false by rw [decide_eq_false (by omega)])
    replace g2 := g2.to (show _ = Value.bool true by rw [decide_eq_true h])
    clear hn h
    go_wp2_with (first | ((with_reducible show wpList _ _ _ (_ :: _) _ _); (with_reducible apply wpl_loadR row192); (· rfl); (· rfl); (· repeat (first | (with_reducible assumption) | with_reducible apply blk_extS)); (· (first | (simp only [bitsA_size, wholeA_size, Nat.zero_add, Nat.reduceAdd, Nat.le_refl, Nat.reduceLeDiff]; done) | with_reducible rfl | (simp; done))); (· (with_reducible first | exact bitsA_ext0 _ | exact wholeA_ext0 _ _ | exact wholeA_ext1 _ _)); (simp only [Act.put, List.setIfInBounds_toArray, List.set_cons_zero, List.set_cons_succ])) | ((with_reducible refine Ans.call (by assumption) ?_); intro _))
    go_ret
    exact ⟨rfl, (by repeat (first | exact Ext.refl _ | refine Ext.alloc ?_ _ | refine Ext.ext ?_ _ | refine Ext.drew ?_))⟩
  · obtain rfl : n = 0 := by rw [← hn]; simp [cmpI]
    replace g1 := g1.to (show _ = Value.bool false by rw [decide_eq_false (by omega)])
    replace g2 := g2.to (show _ = Value.bool false by rw [decide_eq_false (by omega)])
    clear hn
    go_wp2_with (first | ((with_reducible show wpList _ _ _ (_ :: _) _ _); (with_reducible apply wpl_loadR row192); (· rfl); (· rfl); (· repeat (first | (with_reducible assumption) | with_reducible apply blk_extS)); (· (first | (simp only [bitsA_size, wholeA_size, Nat.zero_add, Nat.reduceAdd, Nat.le_refl, Nat.reduceLeDiff]; done) | with_reducible rfl | (simp; done))); (· (with_reducible first | exact bitsA_ext0 _ | exact wholeA_ext0 _ _ | exact wholeA_ext1 _ _)); (simp only [Act.put, List.setIfInBounds_toArray, List.set_cons_zero, List.set_cons_succ])) | ((with_reducible refine Ans.call (by assumption) ?_); intro _))
    go_ret
    exact ⟨rfl, (by repeat (first | exact Ext.refl _ | refine Ext.alloc ?_ _ | refine Ext.ext ?_ _ | refine Ext.drew ?_))⟩
  · obtain rfl : n = 1 := by rw [← hn]; unfold cmpI; rw [if_neg (by omega)]; simp; omega
    replace g1 := g1.to (show _ = Value.bool true by rw [decide_eq_true h])
    clear hn h g2
    go_wp2_with (first | ((with_reducible show wpList _ _ _ (_ :: _) _ _); (with_reducible apply wpl_loadR row192); (· rfl); (· rfl); (· repeat (first | (with_reducible assumption) | with_reducible apply blk_extS)); (· (first | (simp only [bitsA_size, wholeA_size, Nat.zero_add, Nat.reduceAdd, Nat.le_refl, Nat.reduceLeDiff]; done) | with_reducible rfl | (simp; done))); (· (with_reducible first | exact bitsA_ext0 _ | exact wholeA_ext0 _ _ | exact wholeA_ext1 _ _)); (simp only [Act.put, List.setIfInBounds_toArray, List.set_cons_zero, List.set_cons_succ])) | ((with_reducible refine Ans.call (by assumption) ?_); intro _))
    go_ret
    exact ⟨rfl, (by repeat (first | exact Ext.refl _ | refine Ext.alloc ?_ _ | refine Ext.ext ?_ _ | refine Ext.drew ?_))⟩
set_option maxRecDepth 100000 in
set_option maxHeartbeats 1000000 in
theorem rcmp_ans {an ad bn bd : Int} (ha : In64p an ad) (hb : In64p bn bd) : Ans 40 #[.agg #[.int .i64 an, .int .i64 ad], .agg #[.int .i64 bn, .int .i64 bd]] (.int .i64 (cmpR an ad bn bd)) := by
  intro w
  have h1 := rmay_ans an ad ha
  have h2 := rmay_ans bn bd hb
  cases hma : mayB an ad
  · rw [hma] at h1
    rw [show cmpR an ad bn bd = 0 by unfold cmpR; rw [hma]; rfl]
    clear hma ha hb h2
    go_enter Try.func40, Try.ntmps40
    go_wp2_with ((with_reducible refine Ans.call (by assumption) ?_); intro _)
    go_ret
    exact ⟨rfl, (by repeat (first | exact Ext.refl _ | refine Ext.alloc ?_ _ | refine Ext.ext ?_ _ | refine Ext.drew ?_))⟩
  · cases hmb : mayB bn bd
    · rw [hma] at h1
      rw [hmb] at h2
      rw [show cmpR an ad bn bd = 0 by unfold cmpR; rw [hma, hmb]; rfl]
      clear hma hmb ha hb
      go_enter Try.func40, Try.ntmps40
      go_wp2_with ((with_reducible refine Ans.call (by assumption) ?_); intro _)
      go_ret
      exact ⟨rfl, (by repeat (first | exact Ext.refl _ | refine Ext.alloc ?_ _ | refine Ext.ext ?_ _ | refine Ext.drew ?_))⟩
    · rw [show cmpR an ad bn bd = cmpI (an * bd) (bn * ad) by unfold cmpR; rw [hma, hmb]; rfl]
      rw [hma] at h1
      rw [hmb] at h2
      obtain ⟨a1, a2, a3, a4⟩ := may_facts hma
      obtain ⟨b1, b2, b3, b4⟩ := may_facts hmb
      clear ha hb hma hmb
      obtain ⟨A, rfl⟩ : ∃ A : Nat, an = A := ⟨an.toNat, by omega⟩
      obtain ⟨B, rfl⟩ : ∃ A : Nat, ad = A := ⟨ad.toNat, by omega⟩
      obtain ⟨C, rfl⟩ : ∃ A : Nat, bn = A := ⟨bn.toNat, by omega⟩
      obtain ⟨D, rfl⟩ : ∃ A : Nat, bd = A := ⟨bd.toNat, by omega⟩
      exact rcmp_good A B C D (by omega) (by omega) (by omega) (by omega) w h1 h2 _ (by simp)
end Go.Proofs.Ytfbipghjhngncaa
