/- PaymentsVoid: its walk. -/
import Derived.Test.YtgobnamhdkbbeaaPayGPart15
namespace Go.Proofs.Ytgobnamhdkbbeaa
open Go.RowKit
set_option linter.unusedSimpArgs false
set_option linter.unusedVariables false
def vp9 (a : Value) (b : Value) : Array Value := #[a, b]
section
variable (a : Value) (b : Value)
theorem vp9_sz : (vp9 a b).size = 2 := rfl
theorem vp9_g0 : (vp9 a b)[0]? = some (a) := rfl
theorem vp9_s0 (v : Value) : (vp9 a b).setIfInBounds 0 (v) = vp9 v b := rfl
theorem vp9_g1 : (vp9 a b)[1]? = some (b) := rfl
theorem vp9_s1 (v : Value) : (vp9 a b).setIfInBounds 1 (v) = vp9 a v := rfl
end
theorem vp9_ones (pn : Nat) : ∀ v ∈ [Value.pointer none, .pointer (some ⟨pn, 0, none⟩)], v.cells = #[v] := by
  intro v hv
  simp at hv
  rcases hv with rfl | rfl <;> rfl
theorem bs_vp9 : Try.prog.underlying 48 = some (.slice 26) ∧ (Try.prog.info? 26).map (fun i => (i.size, i.zero)) = some (1, some (.pointer none)) := ⟨Try.underlying48, by kernel_rfl⟩
set_option maxRecDepth 100000
set_option maxHeartbeats 4000000
theorem paymentsVoid_walk (f t c : Nat) (n : Int) (hf : f ≤ 255) (ht : t ≤ 255) (w : World) : Calls Try.prog 5 #[.agg (ask9 f t c n)] w fun e w' => e = .returned (.bool true) ∧ Below w.heap.size w w' := by
  have H := Heap.start w
  go_enter Try.func5, Try.ntmps5
  go_wp2_with (first
    | ((with_reducible show wpList _ _ _ (_ :: _) _ _); (with_reducible apply wpl_boxRH); (· rfl); (· rfl); (· exact H); (clear H; intro px _ H); (simp only [Act.put, List.setIfInBounds_toArray, List.set_cons_zero, List.set_cons_succ]))
    | ((with_reducible show wpList _ _ _ (_ :: _) _ _); (with_reducible apply wpl_allocRH row_led); (· rfl); (· exact H); (clear H; intro pn _ H); (simp only [Act.put, List.setIfInBounds_toArray, List.set_cons_zero, List.set_cons_succ]))
    | ((with_reducible show wpList _ _ _ (_ :: _) _ _); (with_reducible apply wpl_bsOnes _ [.pointer none, .pointer (some ⟨pn, 0, none⟩)]); (· rfl); (· rfl); (· rfl); (· decide); (· decide); (· exact vp9_ones pn); (· exact bs_vp9); (· rfl); (· exact H); (clear H; intro pl _ H); (change Heap w (Cel pl (vp9 (.pointer none) (.pointer (some ⟨pn, 0, none⟩))) 26 :: _) _ at H); (simp only [Act.put, List.setIfInBounds_toArray, List.set_cons_zero, List.set_cons_succ]))
    | go_skip)
  have H0 := H
  clear H
  go_loopw [5] (fun i wr => ∃ k' : Nat, k' ≤ 2 ∧ i = .int .i64 k' ∧ Heap w [Cel pl (vp9 (.pointer none) (.pointer (some ⟨pn, 0, none⟩))) 26, LdC pn [] none, Cel px (ask9 f t c n) 43] wr) (fun i _ => 2 - (intOf i).toNat)
  case atStart => exact ⟨0, by omega, rfl, H0⟩
  case round =>
    obtain ⟨k', hk, rfl, H⟩ := hrel
    clear H0
    have V0 := VoidL.nil w [Cel pl (vp9 (.pointer none) (.pointer (some ⟨pn, 0, none⟩))) 26, LdC pn [] none, Cel px (ask9 f t c n) 43]
    have V1 : VoidL w [Cel pl (vp9 (.pointer none) (.pointer (some ⟨pn, 0, none⟩))) 26, LdC pn [] none, Cel px (ask9 f t c n) 43] (.pointer (some ⟨pn, 0, none⟩)) := VoidL.zero (p := pn) (P := []) (by (repeat (first | (with_reducible exact List.mem_cons_self) | with_reducible apply List.mem_cons_of_mem)))
    obtain rfl | rfl | rfl : k' = 0 ∨ k' = 1 ∨ k' = 2 := by omega
    · have c0 := pay_V f t c n V0
      have c1 := payMost_V f t c hf ht V0
      clear V1 V0
      go_wp2_with (go_skip)
      refine wp_region_H H (by kernel_rfl) (by kernel_rfl) ?_
      repeat (first | go_big_quiet_skip | ((with_reducible apply wpQ_loadCH); (· first | exact cell_party | exact cell_cur | exact cell_i64 | exact cell_ledp); (· rfl); (· rfl); (· (repeat (first | (with_reducible exact List.mem_cons_self) | with_reducible apply List.mem_cons_of_mem))); (· (with_reducible first | exact ask9_g0 .. | exact ask9_g1 .. | exact ask9_g2 .. | exact ask9_g3 .. | exact vp9_g0 .. | exact vp9_g1 ..)); (simp only [Act.put, List.setIfInBounds_toArray, List.set_cons_zero, List.set_cons_succ])) | go_big_quiet_step ((with_reducible first | exact AnsH.quiet (by assumption) | exact Ans.quietH (by assumption))))
      refine wpQuiet_nil ?_
      clear H
      intro _ H
      go_wp2_with (go_skip)
      refine wp_region_H H (by kernel_rfl) (by kernel_rfl) ?_
      repeat (first | go_big_quiet_skip | ((with_reducible apply wpQ_loadCH); (· first | exact cell_party | exact cell_cur | exact cell_i64 | exact cell_ledp); (· rfl); (· rfl); (· (repeat (first | (with_reducible exact List.mem_cons_self) | with_reducible apply List.mem_cons_of_mem))); (· (with_reducible first | exact ask9_g0 .. | exact ask9_g1 .. | exact ask9_g2 .. | exact ask9_g3 .. | exact vp9_g0 .. | exact vp9_g1 ..)); (simp only [Act.put, List.setIfInBounds_toArray, List.set_cons_zero, List.set_cons_succ])) | go_big_quiet_step ((with_reducible first | exact AnsH.quiet (by assumption) | exact Ans.quietH (by assumption))))
      refine wpQuiet_nil ?_
      clear H
      intro _ H
      go_wp2_with (go_skip)
      go_roundw
      case rel => exact ⟨1, by omega, rfl, H⟩
      case measure => simp [intOf]
    · have c0 := pay_V f t c n V1
      have c1 := payMost_V f t c hf ht V1
      clear V1 V0
      go_wp2_with (go_skip)
      refine wp_region_H H (by kernel_rfl) (by kernel_rfl) ?_
      repeat (first | go_big_quiet_skip | ((with_reducible apply wpQ_loadCH); (· first | exact cell_party | exact cell_cur | exact cell_i64 | exact cell_ledp); (· rfl); (· rfl); (· (repeat (first | (with_reducible exact List.mem_cons_self) | with_reducible apply List.mem_cons_of_mem))); (· (with_reducible first | exact ask9_g0 .. | exact ask9_g1 .. | exact ask9_g2 .. | exact ask9_g3 .. | exact vp9_g0 .. | exact vp9_g1 ..)); (simp only [Act.put, List.setIfInBounds_toArray, List.set_cons_zero, List.set_cons_succ])) | go_big_quiet_step ((with_reducible first | exact AnsH.quiet (by assumption) | exact Ans.quietH (by assumption))))
      refine wpQuiet_nil ?_
      clear H
      intro _ H
      go_wp2_with (go_skip)
      refine wp_region_H H (by kernel_rfl) (by kernel_rfl) ?_
      repeat (first | go_big_quiet_skip | ((with_reducible apply wpQ_loadCH); (· first | exact cell_party | exact cell_cur | exact cell_i64 | exact cell_ledp); (· rfl); (· rfl); (· (repeat (first | (with_reducible exact List.mem_cons_self) | with_reducible apply List.mem_cons_of_mem))); (· (with_reducible first | exact ask9_g0 .. | exact ask9_g1 .. | exact ask9_g2 .. | exact ask9_g3 .. | exact vp9_g0 .. | exact vp9_g1 ..)); (simp only [Act.put, List.setIfInBounds_toArray, List.set_cons_zero, List.set_cons_succ])) | go_big_quiet_step ((with_reducible first | exact AnsH.quiet (by assumption) | exact Ans.quietH (by assumption))))
      refine wpQuiet_nil ?_
      clear H
      intro _ H
      go_wp2_with (go_skip)
      go_roundw
      case rel => exact ⟨2, by omega, rfl, H⟩
      case measure => simp [intOf]
    · clear V0 V1
      go_wp2_with (go_skip)
      refine (lives09_H H).mono ?_
      clear H
      rintro e w3 ⟨rfl, H⟩
      go_wp2_with (go_skip)
      go_ret
      exact ⟨rfl, H.low⟩
theorem paymentsVoid_law (v : Value) (w : World) (o : AskArg w v) : Calls Try.prog 5 #[v] w fun e w' => e = .returned (.bool true) ∧ Below w.heap.size w w' := by
  obtain ⟨⟨f, t, c, n⟩, rfl, o1, o2, _⟩ := o
  exact paymentsVoid_walk f t c n o1 o2 w
end Go.Proofs.Ytgobnamhdkbbeaa
