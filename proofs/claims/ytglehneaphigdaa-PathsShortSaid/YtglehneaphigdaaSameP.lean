/- countinghouselaw01's SameParties. -/
import Derived.Test.YtglehneaphigdaaRound
namespace Go.Proofs.Ytglehneaphigdaa
open Go.RowKit
set_option linter.unusedSimpArgs false
set_option linter.unusedVariables false
section
variable {ops : Array Oper} {rest : List Oper} {a : Act} {w W : World} {l : List Thing}
theorem wpQ_loadCell {T : TypeId} {dst : Option Tmp} {ty : TypeId} {pos : String} {after : Array Edge} {guard : Option (Nat × Bool)} {x : Operand} {b off : Nat} {K : Act → Prop} {H : Heap W l w} (CT : CellTy T) (hw : Region.wanted ⟨dst, .load T x, ty, pos, after, guard⟩ (yielded ops a.tmps) = true) (hx : a.eval x = .pointer (some ⟨b, off, none⟩))
    {v : Value} (hc : ∀ w', Heap W l w' → w'.cell? ⟨b, off, none⟩ = some v)
    (h : wpQuiet Try.prog ops (fun w' => ∃ d, w' = H.any d) K rest (a.put dst v)) : wpQuiet Try.prog ops (fun w' => ∃ d, w' = H.any d) K (⟨dst, .load T x, ty, pos, after, guard⟩ :: rest) a := by
  refine BigFrame.wpQuiet_want hw fun K hK => ⟨v, ?_, hK _ h⟩
  rintro _ ⟨d, rfl⟩
  have hv := hc _ (H.any_heap d)
  simp only [World.cell?, if_true] at hv
  cases hb : (H.any d).heap[b]? with
  | none => rw [hb] at hv; cases hv
  | some o =>
    rw [hb] at hv
    cases o <;> first | (cases hv; done) | skip
    rename_i cs t f
    unfold Oper.quietAt execOp
    simp only [hx, Sem.run_bind, run_loadC CT hb hv]
    exact ⟨rfl, rfl⟩
end
section
variable {W w : World} {l : List Thing}
set_option maxRecDepth 100000
set_option maxHeartbeats 2000000
theorem same_no {A B : List Nat} (a b : Option Addr) (n m c d : Nat) (hA : A.length = n) (hB : B.length = m) (hn : n ≤ 1000000) (hm : m ≤ 1000000) (hne : n ≠ m) : AnsH W l 63 #[.slice a n c, .slice b m d] (.bool false) := by
  intro w H
  have e1 : ((n : Int) != (m : Int)) = true := by simp; omega
  have e2 : ((n : Int) == (m : Int)) = false := by simp; omega
  go_enter Try.func63, Try.ntmps63
  go_wp2_with (go_skip)
  go_ret
  exact ⟨rfl, H⟩
structure SameLoop (W : World) (l : List Thing) (A B : List Nat) (n : Nat) (vi : Value) (wr : World) : Prop where
  out : ∃ k : Nat, k ≤ n ∧ vi = .int .i64 (k : Int) ∧ A.take k = B.take k ∧ Heap W l wr
theorem same_P {A B : List Nat} (a b : Option Addr) (n c d : Nat) (hA : A.length = n) (hB : B.length = n) (hn : n ≤ 1000000) (hA8 : ∀ x ∈ A, x ≤ 255) (hB8 : ∀ x ∈ B, x ≤ 255) (RA : ∀ w', Heap W l w' → Rd w' a (A.map pv)) (RB : ∀ w', Heap W l w' → Rd w' b (B.map pv)) :
    AnsH W l 63 #[.slice a n c, .slice b n d] (.bool (decide (A = B))) := by
  intro w H
  have HA := Lib.hid hA
  have HB := Lib.hid hB
  have HRA := Lib.hid RA
  have HRB := Lib.hid RB
  clear hA hB RA RB hA8 hB8
  generalize hres : decide (A = B) = res
  have HRES := Lib.hid hres
  clear hres
  go_enter Try.func63, Try.ntmps63
  go_wp2_with (go_skip)
  have H0 := H
  clear H
  go_loopw [5] (fun vi wr => SameLoop W l A B n vi wr) (fun vi _ => n - (intOf vi).toNat)
  case atStart => exact ⟨0, Nat.zero_le _, rfl, rfl, H0⟩
  case round =>
    obtain ⟨k, hk, rfl, ht, H'⟩ := hrel.out
    clear H0 hrel
    have H := H'
    clear H'
    by_cases hlt : k < n
    · have hkA : k < A.length := by rw [HA.out]; exact hlt
      have hkB : k < B.length := by rw [HB.out]; exact hlt
      have hx : A[k]? = some A[k] := List.getElem?_eq_getElem hkA
      have hy : B[k]? = some B[k] := List.getElem?_eq_getElem hkB
      have HT := Lib.hid ht
      clear ht
      generalize A[k] = x at *
      generalize B[k] = y at *
      obtain ⟨ba, oa, rfl, _⟩ := (HRA.out _ H).lt (by rw [List.length_map]; omega)
      obtain ⟨bb, ob, rfl, _⟩ := (HRB.out _ H).lt (by rw [List.length_map]; omega)
      have hcx : ∀ w', Heap W l w' → w'.cell? ⟨ba, oa + k, none⟩ = some (.int .u8 (x : Int)) := fun w' h => rd_party (HRA.out w' h) hx
      have hcy : ∀ w', Heap W l w' → w'.cell? ⟨bb, ob + k, none⟩ = some (.int .u8 (y : Int)) := fun w' h => rd_party (HRB.out w' h) hy
      by_cases he : x = y
      · subst he
        have e1 : ((x : Int) != (x : Int)) = false := by simp
        have HS := Lib.hid (show A.take (k + 1) = B.take (k + 1) by rw [List.take_add_one, List.take_add_one, hx, hy, HT.out])
        clear hx hy
        go_wp2_with (go_skip)
        refine wp_region_H H (by kernel_rfl) (by kernel_rfl) ?_
        repeat (first | go_big_quiet_skip | (first | ((with_reducible apply wpQ_loadCell); (· exact cell_party); (· rfl); (· rfl); (· exact hcx); (simp only [Act.put, List.setIfInBounds_toArray, List.set_cons_zero, List.set_cons_succ])) | ((with_reducible apply wpQ_loadCell); (· exact cell_party); (· rfl); (· rfl); (· exact hcy); (simp only [Act.put, List.setIfInBounds_toArray, List.set_cons_zero, List.set_cons_succ]))) | go_big_quiet_step (fail))
        refine wpQuiet_nil ?_
        clear H
        intro _ H
        go_wp2_with (go_skip)
        refine ⟨⟨k + 1, by omega, by go_num, HS.out, H⟩, ?measure⟩
        case measure => simp [intOf]; omega
      · have e1 : ((x : Int) != (y : Int)) = true := by simp; omega
        have HN := Lib.hid (show A ≠ B from fun e => by subst e; rw [hx] at hy; exact he (Option.some.inj hy))
        clear hx hy he
        go_wp2_with (go_skip)
        refine wp_region_H H (by kernel_rfl) (by kernel_rfl) ?_
        repeat (first | go_big_quiet_skip | (first | ((with_reducible apply wpQ_loadCell); (· exact cell_party); (· rfl); (· rfl); (· exact hcx); (simp only [Act.put, List.setIfInBounds_toArray, List.set_cons_zero, List.set_cons_succ])) | ((with_reducible apply wpQ_loadCell); (· exact cell_party); (· rfl); (· rfl); (· exact hcy); (simp only [Act.put, List.setIfInBounds_toArray, List.set_cons_zero, List.set_cons_succ]))) | go_big_quiet_step (fail))
        refine wpQuiet_nil ?_
        clear H
        intro _ H
        go_wp2_with (go_skip)
        go_ret
        rw [← HRES.out, decide_eq_false HN.out]
        exact ⟨rfl, H⟩
    · obtain rfl : k = n := by omega
      have HE := Lib.hid (show A = B by
        have h := ht
        rw [List.take_of_length_le (by rw [HA.out]; exact Nat.le_refl _), List.take_of_length_le (by rw [HB.out]; exact Nat.le_refl _)] at h
        exact h)
      clear ht
      go_wp2_with (go_skip)
      go_ret
      rw [← HRES.out, decide_eq_true HE.out]
      exact ⟨rfl, H⟩
end
end Go.Proofs.Ytglehneaphigdaa
