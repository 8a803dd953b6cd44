/- Part 15 of what several laws stand on: SameL. -/
import Derived.Test.YtgobnamhdkbbeaaPayGPart14
import Derived.Laws.StructEq
/- countinghouselaw01's SameLines. -/
namespace Go.Proofs.Ytgobnamhdkbbeaa
open Go.RowKit
set_option linter.unusedSimpArgs false
set_option linter.unusedVariables false
def lineSame (a b c d e a' b' c' d' e' : Int) : Bool := decide (a = a' ∧ b = b' ∧ c = c' ∧ d = d' ∧ e = e')
theorem eqL_run (k : Nat) (a b c d e a' b' c' d' e' : Int) (w : World) : (Op.equalIn (k + 2) 84 (.agg (line a b c d e)) (.agg (line a' b' c' d' e'))).run Try.prog w = .ok (lineSame a b c d e a' b' c' d' e') w := by
  rw [run_equalIn_struct w (k + 1) 84 _ _ (by kernel_rfl) (by kernel_rfl)]
  have hu := Try.underlying30
  have hu2 := Try.underlying23
  have hv := Try.underlying2
  by_cases h1 : a = a' <;> by_cases h2 : b = b' <;> by_cases h3 : c = c' <;> by_cases h4 : d = d' <;> by_cases h5 : e = e'
  all_goals simp [lineSame, go_sem, Try.underlying84, hu, hu2, hv, h1, h2, h3, h4, h5]
theorem neqL_run (a b c d e a' b' c' d' e' : Int) (w : World) : (binOp .neq 84 (.agg (line a b c d e)) (.agg (line a' b' c' d' e'))).run Try.prog w = .ok (.bool (!lineSame a b c d e a' b' c' d' e')) w := by
  have h : (Op.equal 84 (.agg (line a b c d e)) (.agg (line a' b' c' d' e'))).run Try.prog w = .ok (lineSame a b c d e a' b' c' d' e') w := eqL_run 9998 a b c d e a' b' c' d' e' w
  simp only [binOp]
  simp [Sem.run_bind, h]
section
variable {W w : World} {l : List Thing} {ops : Array Oper} {rest : List Oper} {a : Act}
theorem wpQ_neqL {dst : Option Tmp} {ty : TypeId} {pos : String} {after : Array Edge} {guard : Option (Nat × Bool)} {p q : Operand} {a0 b0 c0 d0 e0 a1 b1 c1 d1 e1 : Int} {K : Act → Prop} {H : Heap W l w} (hw : Region.wanted ⟨dst, .binOp .neq 84 p q 84, ty, pos, after, guard⟩ (yielded ops a.tmps) = true) (hp : a.eval p = .agg (line a0 b0 c0 d0 e0)) (hq : a.eval q = .agg (line a1 b1 c1 d1 e1))
    (h : wpQuiet Try.prog ops (fun w' => ∃ d, w' = H.any d) K rest (a.put dst (.bool (!lineSame a0 b0 c0 d0 e0 a1 b1 c1 d1 e1)))) : wpQuiet Try.prog ops (fun w' => ∃ d, w' = H.any d) K (⟨dst, .binOp .neq 84 p q 84, ty, pos, after, guard⟩ :: rest) a := by
  have hg : (Try.prog.eqGuardType Try.prog.depth 84) = false := by kernel_rfl
  refine BigFrame.wpQuiet_want hw fun K hK => ⟨_, ?_, hK _ h⟩
  rintro _ ⟨d, rfl⟩
  unfold Oper.quietAt execOp
  simp only [hp, hq, Sem.run_bind, neqL_run]
  simp [eqGuard, hg, neqL_run]
  exact ⟨rfl, rfl⟩
end
structure SameLL (W : World) (l : List Thing) (A B : List Lin) (n : Nat) (vi : Value) (wr : World) : Prop where
  out : ∃ k : Nat, k ≤ n ∧ vi = .int .i64 (k : Int) ∧ A.take k = B.take k ∧ Heap W l wr
section
variable {W w : World} {l : List Thing}
set_option maxRecDepth 100000
set_option maxHeartbeats 2000000
theorem sameL_no {A B : List Lin} (a b : Option Addr) (n m c d : Nat) (hA : A.length = n) (hB : B.length = m) (hn : n ≤ 1000000) (hm : m ≤ 1000000) (hne : n ≠ m) : AnsH W l 72 #[.slice a n c, .slice b m d] (.bool false) := by
  intro w H
  have e1 : ((n : Int) != (m : Int)) = true := by simp; omega
  have e2 : ((n : Int) == (m : Int)) = false := by simp; omega
  go_enter Try.func72, Try.ntmps72
  go_wp2_with (go_skip)
  go_ret
  exact ⟨rfl, H⟩
theorem sameL_P {A B : List Lin} (a b : Option Addr) (n c d : Nat) (hA : A.length = n) (hB : B.length = n) (hn : n ≤ 1000000) (RA : ∀ w', Heap W l w' → Rd w' a (linL A)) (RB : ∀ w', Heap W l w' → Rd w' b (linL B)) :
    AnsH W l 72 #[.slice a n c, .slice b n d] (.bool (decide (A = B))) := by
  intro w H
  have HA := Lib.hid hA
  have HB := Lib.hid hB
  have HRA := Lib.hid RA
  have HRB := Lib.hid RB
  clear hA hB RA RB
  generalize hres : decide (A = B) = res
  have HRES := Lib.hid hres
  clear hres
  go_enter Try.func72, Try.ntmps72
  go_wp2_with (go_skip)
  have H0 := H
  clear H
  go_loopw [5] (fun vi wr => SameLL W l A B n vi wr) (fun vi _ => n - (intOf vi).toNat)
  case atStart => exact ⟨0, Nat.zero_le _, rfl, rfl, H0⟩
  case round =>
    obtain ⟨k, hk, rfl, ht, H'⟩ := hrel.out
    clear H0 hrel
    have H := H'
    clear H'
    by_cases hlt : k < n
    · have hkA : k < A.length := by rw [HA.out]; exact hlt
      have hkB : k < B.length := by rw [HB.out]; exact hlt
      have hx : A[k]? = some A[k] := List.getElem?_eq_getElem hkA
      have hy : B[k]? = some B[k] := List.getElem?_eq_getElem hkB
      have ra := linL_at A k hkA
      have rb := linL_at B k hkB
      have hlA : k * 5 + 5 ≤ (linL A).length := by rw [linL_len]; omega
      have hlB : k * 5 + 5 ≤ (linL B).length := by rw [linL_len]; omega
      have HT := Lib.hid ht
      clear ht
      generalize A[k] = x at *
      generalize B[k] = y at *
      obtain ⟨ba, oa, rfl, _⟩ := (HRA.out _ H).lt (by omega)
      obtain ⟨bb, ob, rfl, _⟩ := (HRB.out _ H).lt (by omega)
      obtain ⟨xa, xb, xc, xd, xe⟩ := x
      obtain ⟨ya, yb, yc, yd, ye⟩ := y
      have hrA : (((linL A).drop (k * 5)).take 5).toArray = line xa xb xc xd xe := by rw [ra]; rfl
      have hrB : (((linL B).drop (k * 5)).take 5).toArray = line ya yb yc yd ye := by rw [rb]; rfl
      clear ra rb
      cases he : lineSame xa xb xc xd xe ya yb yc yd ye
      · have HN := Lib.hid (show A ≠ B from fun e => by
          subst e
          rw [hx] at hy
          obtain ⟨rfl, rfl, rfl, rfl, rfl⟩ := by simpa using hy
          simp [lineSame] at he)
        clear hx hy
        go_wp2_with (go_skip)
        refine wp_region_H H (by kernel_rfl) (by kernel_rfl) ?_
        repeat (first | go_big_quiet_skip | (first | ((with_reducible apply wpQ_loadRdR row_line); (· rfl); (· rfl); (· exact HRA.out); (· rfl); (· exact hlA); (· decide); (· exact hrA); (simp only [Act.put, List.setIfInBounds_toArray, List.set_cons_zero, List.set_cons_succ])) | ((with_reducible apply wpQ_loadRdR row_line); (· rfl); (· rfl); (· exact HRB.out); (· rfl); (· exact hlB); (· decide); (· exact hrB); (simp only [Act.put, List.setIfInBounds_toArray, List.set_cons_zero, List.set_cons_succ])) | ((with_reducible apply wpQ_neqL); (· rfl); (· rfl); (· rfl); (rw [he]); (simp only [Act.put, List.setIfInBounds_toArray, List.set_cons_zero, List.set_cons_succ]))) | go_big_quiet_step (fail))
        refine wpQuiet_nil ?_
        clear H
        intro _ H
        go_wp2_with (go_skip)
        go_ret
        rw [← HRES.out, decide_eq_false HN.out]
        exact ⟨rfl, H⟩
      · have HS := Lib.hid (show A.take (k + 1) = B.take (k + 1) by
          rw [List.take_add_one, List.take_add_one, hx, hy, HT.out]
          have h2 := he
          simp [lineSame] at h2
          obtain ⟨rfl, rfl, rfl, rfl, rfl⟩ := h2
          rfl)
        clear hx hy
        go_wp2_with (go_skip)
        refine wp_region_H H (by kernel_rfl) (by kernel_rfl) ?_
        repeat (first | go_big_quiet_skip | (first | ((with_reducible apply wpQ_loadRdR row_line); (· rfl); (· rfl); (· exact HRA.out); (· rfl); (· exact hlA); (· decide); (· exact hrA); (simp only [Act.put, List.setIfInBounds_toArray, List.set_cons_zero, List.set_cons_succ])) | ((with_reducible apply wpQ_loadRdR row_line); (· rfl); (· rfl); (· exact HRB.out); (· rfl); (· exact hlB); (· decide); (· exact hrB); (simp only [Act.put, List.setIfInBounds_toArray, List.set_cons_zero, List.set_cons_succ])) | ((with_reducible apply wpQ_neqL); (· rfl); (· rfl); (· rfl); (rw [he]); (simp only [Act.put, List.setIfInBounds_toArray, List.set_cons_zero, List.set_cons_succ]))) | go_big_quiet_step (fail))
        refine wpQuiet_nil ?_
        clear H
        intro _ H
        go_wp2_with (go_skip)
        refine ⟨⟨k + 1, by omega, by go_num, HS.out, H⟩, ?measure⟩
        case measure => simp [intOf]; omega
    · obtain rfl : k = n := by omega
      have HE := Lib.hid (show A = B by
        have h := ht
        rw [List.take_of_length_le (by rw [HA.out]; exact Nat.le_refl _), List.take_of_length_le (by rw [HB.out]; exact Nat.le_refl _)] at h
        exact h)
      clear ht
      go_wp2_with (go_skip)
      go_ret
      rw [← HRES.out, decide_eq_true HE.out]
      exact ⟨rfl, H⟩
theorem sameLines_P {A B : List Lin} (a b : Option Addr) (n m c d : Nat) (hA : A.length = n) (hB : B.length = m) (hn : n ≤ 1000000) (hm : m ≤ 1000000) (RA : ∀ w', Heap W l w' → Rd w' a (linL A)) (RB : ∀ w', Heap W l w' → Rd w' b (linL B)) :
    AnsH W l 31 #[.slice a n c, .slice b m d] (.bool (decide (A = B))) := by
  intro w H
  have S : AnsH W l 72 #[.slice a n c, .slice b m d] (.bool (decide (A = B))) := by
    by_cases e : n = m
    · subst e
      exact sameL_P a b n c d hA hB hn RA RB
    · rw [decide_eq_false (fun h => e (by rw [← hA, ← hB, h]))]
      exact sameL_no a b n m c d hA hB hn hm e
  clear RA RB hA hB
  generalize decide (A = B) = res at *
  go_enter Try.func31, Try.ntmps31
  go_wp2_with (first | go_skip | ((with_reducible refine AnsH.call (by assumption) H ?_); clear H; intro _ H))
  go_ret
  exact ⟨rfl, H⟩
end
end Go.Proofs.Ytgobnamhdkbbeaa
