/- graphs.Graph in memory: a table of capacities; what its readers answer. -/
import Derived.Test.YtgobnamhdkbbeaaHeapRegion
import Derived.Test.YtgobnamhdkbbeaaRows
import Derived.Test.YtgobnamhdkbbeaaCells
namespace Go.Proofs.Ytgobnamhdkbbeaa
open Go.RowKit
set_option linter.unusedSimpArgs false
set_option linter.unusedVariables false


/-- Capacities by both ends. -/
abbrev Caps := Nat → Nat → Int
def upd2 {α : Type} (c : Nat → Nat → α) (a b : Nat) (v : α) : Nat → Nat → α := fun x y => if x = a ∧ y = b then v else c x y
/-- A graph's cells. -/
def gr (c : Caps) (m : Bool) : Array Value := tab 290 fun i => if i < 289 then .int .i64 (c (i / 17) (i % 17)) else .bool m
def mat (c : Caps) : Array Value := tab 289 fun i => .int .i64 (c (i / 17) (i % 17))
def matB (t : Nat → Nat → Bool) : Array Value := tab 289 fun i => .bool (t (i / 17) (i % 17))
def row17 (r : Nat → Int) : Array Value := tab 17 fun i => .int .i64 (r i)
theorem idx17 {a b : Nat} (hb : b < 17) : (a * 17 + b) / 17 = a ∧ (a * 17 + b) % 17 = b := by omega
theorem gr_sz (c : Caps) (m : Bool) : (gr c m).size = 290 := tab_size _ _
theorem mat_sz (c : Caps) : (mat c).size = 289 := tab_size _ _
theorem matB_sz (c : Nat → Nat → Bool) : (matB c).size = 289 := tab_size _ _
theorem row17_sz (c : Nat → Int) : (row17 c).size = 17 := tab_size _ _
theorem gr_get (c : Caps) (m : Bool) {a b : Nat} (ha : a < 17) (hb : b < 17) : (gr c m)[a * 17 + b]? = some (.int .i64 (c a b)) := by
  unfold gr
  rw [tab_get _ (by omega), if_pos (by omega), (idx17 hb).1, (idx17 hb).2]
theorem gr_made (c : Caps) (m : Bool) : (gr c m)[289]? = some (.bool m) := by
  unfold gr
  rw [tab_get _ (by omega), if_neg (by omega)]
theorem gr_set (c : Caps) (m : Bool) {a b : Nat} (ha : a < 17) (hb : b < 17) (v : Int) : (gr c m).setIfInBounds (a * 17 + b) (.int .i64 v) = gr (upd2 c a b v) m := by
  unfold gr
  rw [tab_set _ _ (by omega)]
  apply tab_congr
  intro i hi
  unfold upd2
  by_cases e : i = a * 17 + b
  · subst e
    rw [if_pos rfl, if_pos (by omega), if_pos ⟨(idx17 hb).1, (idx17 hb).2⟩]
  · rw [if_neg e]
    split
    · rw [if_neg (by omega)]
    · rfl
theorem gr_caps (c : Caps) (m : Bool) : (gr c m).extract 0 (0 + 289) = mat c := by
  unfold gr mat
  rw [tab_ext _ (by omega)]
  apply tab_congr
  intro i hi
  rw [Nat.zero_add, if_pos hi]
theorem gr_all (c : Caps) (m : Bool) : (gr c m).extract 0 (0 + 290) = gr c m := by
  have := gr_sz c m
  simp [← this]
theorem mat_all (c : Caps) : (mat c).extract 0 (0 + 289) = mat c := by
  have := mat_sz c
  simp [← this]
theorem gr_cells (c : Caps) (m : Bool) : Cells 290 (gr c m) := tab_cells fun i _ => by split <;> rfl
theorem mat_cells (c : Caps) : Cells 289 (mat c) := tab_cells fun i _ => rfl
theorem gr_splice (c0 c : Caps) (m0 m : Bool) : splice (gr c0 m0) 0 (gr c m) = gr c m := splice_all (by rw [gr_sz, gr_sz])
theorem mat_splice (c0 c : Caps) : splice (mat c0) 0 (mat c) = mat c := splice_all (by rw [mat_sz, mat_sz])
theorem matB_get (c : Nat → Nat → Bool) {a b : Nat} (ha : a < 17) (hb : b < 17) : (matB c)[a * 17 + b]? = some (.bool (c a b)) := by
  unfold matB
  rw [tab_get _ (by omega), (idx17 hb).1, (idx17 hb).2]
theorem matB_set (c : Nat → Nat → Bool) {a b : Nat} (ha : a < 17) (hb : b < 17) (v : Bool) : (matB c).setIfInBounds (a * 17 + b) (.bool v) = matB (upd2 c a b v) := by
  unfold matB
  rw [tab_set _ _ (by omega)]
  apply tab_congr
  intro i hi
  unfold upd2
  by_cases e : i = a * 17 + b
  · subst e
    rw [if_pos rfl, if_pos ⟨(idx17 hb).1, (idx17 hb).2⟩]
  · rw [if_neg e, if_neg (by omega)]
theorem row_gr : RowTy 99 290 (gr (fun _ _ => 0) false) := ⟨⟨_, Try.underlying99, rfl⟩, by kernel_rfl, by kernel_rfl⟩
theorem row_mat : RowTy 97 289 (mat fun _ _ => 0) := ⟨⟨_, Try.underlying97, rfl⟩, by kernel_rfl, by kernel_rfl⟩
theorem row_matB : RowTy 143 289 (matB fun _ _ => false) := ⟨⟨_, Try.underlying143, rfl⟩, by kernel_rfl, by kernel_rfl⟩
theorem row_17 : RowTy 95 17 (row17 fun _ => 0) := ⟨⟨_, Try.underlying95, rfl⟩, by kernel_rfl, by kernel_rfl⟩
abbrev Gr (p : Nat) (c : Caps) : Thing := Cel p (gr c true) 99
/-- May a party be? -/
def mayP (a : Nat) : Bool := decide (1 ≤ a) && decide (a ≤ 16)
section
variable {W w : World} {l : List Thing} {p : Nat} {c : Caps} {m : Bool} {R : Ending → World → Prop}
set_option maxRecDepth 100000
set_option maxHeartbeats 1000000
theorem may_ans (a : Nat) (h : a ≤ 255) : Ans 54 #[.int .u8 (a : Int)] (.bool (mayP a)) := by
  intro w
  unfold mayP
  by_cases h1 : 1 ≤ a
  · by_cases h2 : a ≤ 16
    all_goals
      go_enter Try.func54, Try.ntmps54
      go_wp2_with fail
      go_ret
      exact ⟨by simp [h1, h2]; omega, (by repeat (first | exact Ext.refl _ | refine Ext.alloc ?_ _ | refine Ext.ext ?_ _ | refine Ext.drew ?_))⟩
  · go_enter Try.func54, Try.ntmps54
    go_wp2_with fail
    go_ret
    exact ⟨by simp [h1], (by repeat (first | exact Ext.refl _ | refine Ext.alloc ?_ _ | refine Ext.ext ?_ _ | refine Ext.drew ?_))⟩
theorem there_nil : Ans 53 #[.pointer none] (.bool false) := by
  intro w
  go_enter Try.func53, Try.ntmps53
  go_wp2_with fail
  go_ret
  exact ⟨rfl, (by repeat (first | exact Ext.refl _ | refine Ext.alloc ?_ _ | refine Ext.ext ?_ _ | refine Ext.drew ?_))⟩
theorem there_H (h : Cel p (gr c m) 99 ∈ l) : AnsH W l 53 #[.pointer (some ⟨p, 0, none⟩)] (.bool m) := by
  intro w H
  go_enter Try.func53, Try.ntmps53
  go_wp2_with (first | go_skip | ((with_reducible show wpList _ _ _ (_ :: _) _ _); (with_reducible apply wpl_loadCH); (· exact cell_bool); (· rfl); (· rfl); (· exact H); (· exact h); (· exact gr_made _ _); (simp only [Act.put, List.setIfInBounds_toArray, List.set_cons_zero, List.set_cons_succ])))
  go_ret
  exact ⟨rfl, H⟩
theorem there_call (H : Heap W l w) (h : Cel p (gr c m) 99 ∈ l) (k : ∀ w', Heap W l w' → R (.returned (.bool m)) w') : Calls Try.prog 53 #[.pointer (some ⟨p, 0, none⟩)] w R := (there_H h).call H k
/-- A capacity as it is told: none of whom may not be. -/
def capOf (c : Caps) (a b : Nat) : Int := if mayP a ∧ mayP b then c a b else 0
theorem cap_nil (a b : Nat) (ha : a ≤ 255) (hb : b ≤ 255) : Ans 15 #[.pointer none, .int .u8 (a : Int), .int .u8 (b : Int)] (.int .i64 0) := by
  intro w
  have h := there_nil
  go_enter Try.func15, Try.ntmps15
  go_wp2_with (first | go_skip | ((with_reducible refine Ans.call (by assumption) ?_); intro _))
  go_ret
  exact ⟨rfl, (by repeat (first | exact Ext.refl _ | refine Ext.alloc ?_ _ | refine Ext.ext ?_ _ | refine Ext.drew ?_))⟩
theorem cap_zero (a b : Nat) (ha : a ≤ 255) (hb : b ≤ 255) (h : Cel p (gr c false) 99 ∈ l) : AnsH W l 15 #[.pointer (some ⟨p, 0, none⟩), .int .u8 (a : Int), .int .u8 (b : Int)] (.int .i64 0) := by
  intro w H
  go_enter Try.func15, Try.ntmps15
  go_wp2_with (first | go_skip | ((with_reducible apply there_call H); (· exact h); (clear H; intro _ H)))
  go_ret
  exact ⟨rfl, H⟩
theorem mayP_true {a : Nat} (h : mayP a = true) : 1 ≤ a ∧ a ≤ 16 := by simpa [mayP] using h
theorem cap_H (a b : Nat) (ha : a ≤ 255) (hb : b ≤ 255) (h : Gr p c ∈ l) : AnsH W l 15 #[.pointer (some ⟨p, 0, none⟩), .int .u8 (a : Int), .int .u8 (b : Int)] (.int .i64 (capOf c a b)) := by
  intro w H
  have m1 := may_ans a ha
  have m2 := may_ans b hb
  cases h1 : mayP a
  · rw [show capOf c a b = 0 by simp [capOf, h1]]
    rw [h1] at m1
    clear h1
    go_enter Try.func15, Try.ntmps15
    go_wp2_with (first | go_skip | ((with_reducible apply there_call H); (· exact h); (clear H; intro _ H)) | ((with_reducible refine Ans.callH (by assumption) H ?_); clear H; intro _ H))
    go_ret
    exact ⟨rfl, H⟩
  · cases h2 : mayP b
    · rw [show capOf c a b = 0 by simp [capOf, h2]]
      rw [h1] at m1
      rw [h2] at m2
      clear h1 h2
      go_enter Try.func15, Try.ntmps15
      go_wp2_with (first | go_skip | ((with_reducible apply there_call H); (· exact h); (clear H; intro _ H)) | ((with_reducible refine Ans.callH (by assumption) H ?_); clear H; intro _ H))
      go_ret
      exact ⟨rfl, H⟩
    · rw [show capOf c a b = c a b by simp [capOf, h1, h2]]
      rw [h1] at m1
      rw [h2] at m2
      have a1 : a < 17 := by have := mayP_true h1; omega
      have b1 : b < 17 := by have := mayP_true h2; omega
      clear h1 h2
      go_enter Try.func15, Try.ntmps15
      go_wp2_with (first | go_skip | ((with_reducible apply there_call H); (· exact h); (clear H; intro _ H)) | ((with_reducible refine Ans.callH (by assumption) H ?_); clear H; intro _ H) | ((with_reducible show wpList _ _ _ (_ :: _) _ _); (with_reducible apply wpl_loadCH); (· exact cell_i64); (· rfl); (· rfl); (· exact H); (· exact h); (· go_loud (exact gr_get _ _ a1 b1)); (simp only [Act.put, List.setIfInBounds_toArray, List.set_cons_zero, List.set_cons_succ])))
      go_ret
      exact ⟨rfl, H⟩
end
end Go.Proofs.Ytgobnamhdkbbeaa
