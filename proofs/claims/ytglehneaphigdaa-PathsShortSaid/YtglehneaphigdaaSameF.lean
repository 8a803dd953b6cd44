/- countinghouselaw01's SameFlows. -/
import Derived.Test.YtglehneaphigdaaRef05
import Derived.Laws.StructEq
namespace Go.Proofs.Ytglehneaphigdaa
open Go.RowKit
set_option linter.unusedSimpArgs false
set_option linter.unusedVariables false
instance : DecidableEq Flw := fun x y => if h : x.f = y.f ∧ x.t = y.t ∧ x.n = y.n then .isTrue (by cases x; cases y; simp at h; obtain ⟨rfl, rfl, rfl⟩ := h; rfl) else .isFalse (fun e => by subst e; exact h ⟨rfl, rfl, rfl⟩)
def flowSame (a b n x y z : Int) : Bool := decide (a = x ∧ b = y ∧ n = z)
theorem eqF_run (d : Nat) (a b n x y z : Int) (w : World) : (Op.equalIn (d + 2) 35 (.agg (flow a b n)) (.agg (flow x y z))).run Try.prog w = .ok (flowSame a b n x y z) w := by
  unfold flow
  rw [run_equalIn_struct w (d + 1) 35 _ _ (by kernel_rfl) (by kernel_rfl)]
  have hu := Try.underlying33
  have hv := Try.underlying2
  by_cases h1 : a = x <;> by_cases h2 : b = y <;> by_cases h3 : n = z
  all_goals simp [flowSame, go_sem, Try.underlying35, hu, hv, h1, h2, h3]
theorem neqF_run (a b n x y z : Int) (w : World) : (binOp .neq 35 (.agg (flow a b n)) (.agg (flow x y z))).run Try.prog w = .ok (.bool (!flowSame a b n x y z)) w := by
  have h : (Op.equal 35 (.agg (flow a b n)) (.agg (flow x y z))).run Try.prog w = .ok (flowSame a b n x y z) w := eqF_run 9998 a b n x y z w
  simp only [binOp]
  simp [Sem.run_bind, h]
section
variable {W w : World} {l : List Thing} {ops : Array Oper} {rest : List Oper} {a : Act}
theorem wpQ_neqF {dst : Option Tmp} {ty : TypeId} {pos : String} {after : Array Edge} {guard : Option (Nat × Bool)} {p q : Operand} {a0 b0 n0 x y n : Int} {K : Act → Prop} {H : Heap W l w} (hw : Region.wanted ⟨dst, .binOp .neq 35 p q 35, ty, pos, after, guard⟩ (yielded ops a.tmps) = true) (hp : a.eval p = .agg (flow a0 b0 n0)) (hq : a.eval q = .agg (flow x y n))
    (h : wpQuiet Try.prog ops (fun w' => ∃ d, w' = H.any d) K rest (a.put dst (.bool (!flowSame a0 b0 n0 x y n)))) : wpQuiet Try.prog ops (fun w' => ∃ d, w' = H.any d) K (⟨dst, .binOp .neq 35 p q 35, ty, pos, after, guard⟩ :: rest) a := by
  have hg : (Try.prog.eqGuardType Try.prog.depth 35) = false := by kernel_rfl
  refine BigFrame.wpQuiet_want hw fun K hK => ⟨_, ?_, hK _ h⟩
  rintro _ ⟨d, rfl⟩
  unfold Oper.quietAt execOp
  simp only [hp, hq, Sem.run_bind, neqF_run]
  simp [eqGuard, hg, neqF_run]
  exact ⟨rfl, rfl⟩
end
structure SameFL (W : World) (l : List Thing) (A B : List Flw) (n : Nat) (vi : Value) (wr : World) : Prop where
  out : ∃ k : Nat, k ≤ n ∧ vi = .int .i64 (k : Int) ∧ A.take k = B.take k ∧ Heap W l wr
section
variable {W w : World} {l : List Thing}
set_option maxRecDepth 100000
set_option maxHeartbeats 2000000
theorem sameF_no {A B : List Flw} (a b : Option Addr) (n m c d : Nat) (hA : A.length = n) (hB : B.length = m) (hn : n ≤ 1000000) (hm : m ≤ 1000000) (hne : n ≠ m) : AnsH W l 48 #[.slice a n c, .slice b m d] (.bool false) := by
  intro w H
  have e1 : ((n : Int) != (m : Int)) = true := by simp; omega
  have e2 : ((n : Int) == (m : Int)) = false := by simp; omega
  go_enter Try.func48, Try.ntmps48
  go_wp2_with (go_skip)
  go_ret
  exact ⟨rfl, H⟩
theorem sameF_P {A B : List Flw} (a b : Option Addr) (n c d : Nat) (hA : A.length = n) (hB : B.length = n) (hn : n ≤ 1000000) (RA : ∀ w', Heap W l w' → Rd w' a (flwL A)) (RB : ∀ w', Heap W l w' → Rd w' b (flwL B)) :
    AnsH W l 48 #[.slice a n c, .slice b n d] (.bool (decide (A = B))) := by
  intro w H
  have HA := Lib.hid hA
  have HB := Lib.hid hB
  have HRA := Lib.hid RA
  have HRB := Lib.hid RB
  clear hA hB RA RB
  generalize hres : decide (A = B) = res
  have HRES := Lib.hid hres
  clear hres
  go_enter Try.func48, Try.ntmps48
  go_wp2_with (go_skip)
  have H0 := H
  clear H
  go_loopw [5] (fun vi wr => SameFL W l A B n vi wr) (fun vi _ => n - (intOf vi).toNat)
  case atStart => exact ⟨0, Nat.zero_le _, rfl, rfl, H0⟩
  case round =>
    obtain ⟨k, hk, rfl, ht, H'⟩ := hrel.out
    clear H0 hrel
    have H := H'
    clear H'
    by_cases hlt : k < n
    · have hkA : k < A.length := by rw [HA.out]; exact hlt
      have hkB : k < B.length := by rw [HB.out]; exact hlt
      have hx : A[k]? = some A[k] := List.getElem?_eq_getElem hkA
      have hy : B[k]? = some B[k] := List.getElem?_eq_getElem hkB
      have ra := flwL_at A k hkA
      have rb := flwL_at B k hkB
      have hlA : k * 3 + 3 ≤ (flwL A).length := by rw [flwL_len]; omega
      have hlB : k * 3 + 3 ≤ (flwL B).length := by rw [flwL_len]; omega
      have HT := Lib.hid ht
      clear ht
      generalize A[k] = x at *
      generalize B[k] = y at *
      obtain ⟨ba, oa, rfl, _⟩ := (HRA.out _ H).lt (by omega)
      obtain ⟨bb, ob, rfl, _⟩ := (HRB.out _ H).lt (by omega)
      obtain ⟨xa, xb, xn⟩ := x
      obtain ⟨ya, yb, yn⟩ := y
      have hrA : (((flwL A).drop (k * 3)).take 3).toArray = flow (xa : Int) (xb : Int) xn := by rw [ra]; rfl
      have hrB : (((flwL B).drop (k * 3)).take 3).toArray = flow (ya : Int) (yb : Int) yn := by rw [rb]; rfl
      clear ra rb
      cases he : flowSame (xa : Int) (xb : Int) xn (ya : Int) (yb : Int) yn
      · have HN := Lib.hid (show A ≠ B from fun e => by
          subst e
          rw [hx] at hy
          obtain ⟨rfl, rfl, rfl⟩ := by simpa using hy
          simp [flowSame] at he)
        clear hx hy
        go_wp2_with (go_skip)
        refine wp_region_H H (by kernel_rfl) (by kernel_rfl) ?_
        repeat (first | go_big_quiet_skip | (first | ((with_reducible apply wpQ_loadRdR row_flow); (· rfl); (· rfl); (· exact HRA.out); (· rfl); (· exact hlA); (· decide); (· exact hrA); (simp only [Act.put, List.setIfInBounds_toArray, List.set_cons_zero, List.set_cons_succ])) | ((with_reducible apply wpQ_loadRdR row_flow); (· rfl); (· rfl); (· exact HRB.out); (· rfl); (· exact hlB); (· decide); (· exact hrB); (simp only [Act.put, List.setIfInBounds_toArray, List.set_cons_zero, List.set_cons_succ])) | ((with_reducible apply wpQ_neqF); (· rfl); (· rfl); (· rfl); (rw [he]); (simp only [Act.put, List.setIfInBounds_toArray, List.set_cons_zero, List.set_cons_succ]))) | go_big_quiet_step (fail))
        refine wpQuiet_nil ?_
        clear H
        intro _ H
        go_wp2_with (go_skip)
        go_ret
        rw [← HRES.out, decide_eq_false HN.out]
        exact ⟨rfl, H⟩
      · have HS := Lib.hid (show A.take (k + 1) = B.take (k + 1) by
          rw [List.take_add_one, List.take_add_one, hx, hy, HT.out]
          have h2 := he
          simp [flowSame] at h2
          obtain ⟨h3, h4, h5⟩ := h2
          have h3' : xa = ya := by omega
          have h4' : xb = yb := by omega
          subst h3' h4' h5
          rfl)
        clear hx hy
        go_wp2_with (go_skip)
        refine wp_region_H H (by kernel_rfl) (by kernel_rfl) ?_
        repeat (first | go_big_quiet_skip | (first | ((with_reducible apply wpQ_loadRdR row_flow); (· rfl); (· rfl); (· exact HRA.out); (· rfl); (· exact hlA); (· decide); (· exact hrA); (simp only [Act.put, List.setIfInBounds_toArray, List.set_cons_zero, List.set_cons_succ])) | ((with_reducible apply wpQ_loadRdR row_flow); (· rfl); (· rfl); (· exact HRB.out); (· rfl); (· exact hlB); (· decide); (· exact hrB); (simp only [Act.put, List.setIfInBounds_toArray, List.set_cons_zero, List.set_cons_succ])) | ((with_reducible apply wpQ_neqF); (· rfl); (· rfl); (· rfl); (rw [he]); (simp only [Act.put, List.setIfInBounds_toArray, List.set_cons_zero, List.set_cons_succ]))) | go_big_quiet_step (fail))
        refine wpQuiet_nil ?_
        clear H
        intro _ H
        go_wp2_with (go_skip)
        refine ⟨⟨k + 1, by omega, by go_num, HS.out, H⟩, ?measure⟩
        case measure => simp [intOf]; omega
    · obtain rfl : k = n := by omega
      have HE := Lib.hid (show A = B by
        have h := ht
        rw [List.take_of_length_le (by rw [HA.out]; exact Nat.le_refl _), List.take_of_length_le (by rw [HB.out]; exact Nat.le_refl _)] at h
        exact h)
      clear ht
      go_wp2_with (go_skip)
      go_ret
      rw [← HRES.out, decide_eq_true HE.out]
      exact ⟨rfl, H⟩
theorem sameFlows_P {A B : List Flw} (a b : Option Addr) (n m c d : Nat) (hA : A.length = n) (hB : B.length = m) (hn : n ≤ 1000000) (hm : m ≤ 1000000) (RA : ∀ w', Heap W l w' → Rd w' a (flwL A)) (RB : ∀ w', Heap W l w' → Rd w' b (flwL B)) :
    AnsH W l 23 #[.slice a n c, .slice b m d] (.bool (decide (A = B))) := by
  intro w H
  have S : AnsH W l 48 #[.slice a n c, .slice b m d] (.bool (decide (A = B))) := by
    by_cases e : n = m
    · subst e
      exact sameF_P a b n c d hA hB hn RA RB
    · rw [decide_eq_false (fun h => e (by rw [← hA, ← hB, h]))]
      exact sameF_no a b n m c d hA hB hn hm e
  clear RA RB hA hB
  generalize decide (A = B) = res at *
  go_enter Try.func23, Try.ntmps23
  go_wp2_with (first | go_skip | ((with_reducible refine AnsH.call (by assumption) H ?_); clear H; intro _ H))
  go_ret
  exact ⟨rfl, H⟩
end
end Go.Proofs.Ytglehneaphigdaa
