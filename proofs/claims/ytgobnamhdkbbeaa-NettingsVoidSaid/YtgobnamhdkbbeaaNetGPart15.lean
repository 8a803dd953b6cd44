/- Part 15 of what several laws stand on: LawNettingsVoid. -/
import Derived.Test.YtgobnamhdkbbeaaNetGPart14
/- NettingsVoid: its walk. -/
namespace Go.Proofs.Ytgobnamhdkbbeaa
open Go.RowKit
set_option linter.unusedSimpArgs false
set_option linter.unusedVariables false
set_option maxRecDepth 100000
theorem cell_ledp13 : CellTy 26 := ⟨⟨_, Try.underlying26, rfl⟩, by kernel_rfl⟩
theorem VoidL.more13 {W : World} {l : List Thing} {v : Value} (h : VoidL W l v) (x : Thing) : VoidL W (x :: l) v := fun l' hl => h l' fun t ht => hl t (List.mem_cons_of_mem _ ht)
def vp13 (a : Value) (b : Value) : Array Value := #[a, b]
section
variable (a : Value) (b : Value)
theorem vp13_sz : (vp13 a b).size = 2 := rfl
theorem vp13_g0 : (vp13 a b)[0]? = some (a) := rfl
theorem vp13_s0 (v : Value) : (vp13 a b).setIfInBounds 0 (v) = vp13 v b := rfl
theorem vp13_g1 : (vp13 a b)[1]? = some (b) := rfl
theorem vp13_s1 (v : Value) : (vp13 a b).setIfInBounds 1 (v) = vp13 a v := rfl
end
theorem vp13_ones (pn : Nat) : ∀ v ∈ [Value.pointer none, .pointer (some ⟨pn, 0, none⟩)], v.cells = #[v] := by
  intro v hv
  simp at hv
  rcases hv with rfl | rfl <;> rfl
theorem bs_vp13 : Try.prog.underlying 48 = some (.slice 26) ∧ (Try.prog.info? 26).map (fun i => (i.size, i.zero)) = some (1, some (.pointer none)) := ⟨Try.underlying48, by kernel_rfl⟩
section
variable {W w : World} {l : List Thing} {v : Option Addr}
set_option maxHeartbeats 4000000
theorem debts13_V (c : Nat) (hT : VoidL W l (.pointer v)) : AnsH W l 39 #[.pointer v, .int .u8 (c : Int)] (.slice none 0 0) := by
  intro w H
  have hmf : ∀ (fn : Fn) (first cap : Array Value) (w : World), (Instr.makeFunc fn first cap).run Try.prog w = .ok (.func fn first cap) w := fun _ _ _ _ => rfl
  have CP := Lib.hid (fun (x : Thing) => llines_V (hT.more13 x))
  clear hT
  go_enter Try.func39, Try.ntmps39
  go_wp2_with (first | go_skip | ((with_reducible show wpList _ _ _ (_ :: _) _ _); (with_reducible apply wpl_boxCH); (· rfl); (· rfl); (· rfl); (· exact H); (clear H; intro pc _ H); (simp only [Act.put, List.setIfInBounds_toArray, List.set_cons_zero, List.set_cons_succ])))
  refine (CP.out _ _ H).mono ?_
  clear H
  rintro e w1 ⟨rfl, H⟩
  go_wp2_with (go_skip)
  refine (kept_H [] none 0 0 pc c rfl (by omega) (fun x hx => by cases hx) List.mem_cons_self (fun l' w' hh H' => Rd.nil _ _) H).mono ?_
  clear H
  rintro e w2 ⟨v2, rfl, hz, H⟩
  obtain rfl := hz rfl
  go_wp2_with (go_skip)
  refine (sortF_none none 0 _ _).mono ?_
  rintro e w3 ⟨rfl, rfl⟩
  go_wp2_with (go_skip)
  go_ret
  exact ⟨rfl, H.tail.tail⟩
theorem net13_V (c : Nat) (q : Int) (hT : VoidL W l (.pointer v)) : AnsH W l 38 #[.pointer v, .int .u8 (c : Int), .int .i64 q] (.tuple #[.int .i64 0, .int .i64 0, .int .i64 2]) := by
  intro w H
  have CP := lcopy_V hT
  clear hT
  go_enter Try.func38, Try.ntmps38
  go_wp2_with (first | go_skip | ((with_reducible refine AnsH.call (by assumption) H ?_); clear H; intro _ H))
  go_ret3
  exact ⟨rfl, H⟩
end
set_option maxHeartbeats 8000000
theorem nettingsVoid_walk (c : Nat) (q : Int) (w : World) : Calls Try.prog 9 #[.agg (ask13 (c : Int) q)] w fun e w' => e = .returned (.bool true) ∧ Below w.heap.size w w' := by
  have H := Heap.start w
  go_enter Try.func9, Try.ntmps9
  go_wp2_with (first
    | ((with_reducible show wpList _ _ _ (_ :: _) _ _); (with_reducible apply wpl_boxRH); (· rfl); (· rfl); (· exact H); (clear H; intro px _ H); (simp only [Act.put, List.setIfInBounds_toArray, List.set_cons_zero, List.set_cons_succ]))
    | ((with_reducible show wpList _ _ _ (_ :: _) _ _); (with_reducible apply wpl_allocRH row_led); (· rfl); (· exact H); (clear H; intro pn _ H); (simp only [Act.put, List.setIfInBounds_toArray, List.set_cons_zero, List.set_cons_succ]))
    | ((with_reducible show wpList _ _ _ (_ :: _) _ _); (with_reducible apply wpl_bsOnes _ [.pointer none, .pointer (some ⟨pn, 0, none⟩)]); (· rfl); (· rfl); (· rfl); (· decide); (· decide); (· exact vp13_ones pn); (· exact bs_vp13); (· rfl); (· exact H); (clear H; intro pl _ H); (change Heap w (Cel pl (vp13 (.pointer none) (.pointer (some ⟨pn, 0, none⟩))) 26 :: _) _ at H); (simp only [Act.put, List.setIfInBounds_toArray, List.set_cons_zero, List.set_cons_succ]))
    | go_skip)
  have H0 := H
  clear H
  go_loopw [5] (fun i wr => ∃ k' : Nat, k' ≤ 2 ∧ i = .int .i64 k' ∧ Heap w [Cel pl (vp13 (.pointer none) (.pointer (some ⟨pn, 0, none⟩))) 26, LdC pn [] none, Cel px (ask13 (c : Int) q) 75] wr) (fun i _ => 2 - (intOf i).toNat)
  case atStart => exact ⟨0, by omega, rfl, H0⟩
  case round =>
    obtain ⟨k', hk, rfl, H⟩ := hrel
    clear H0
    have V0 := VoidL.nil w [Cel pl (vp13 (.pointer none) (.pointer (some ⟨pn, 0, none⟩))) 26, LdC pn [] none, Cel px (ask13 (c : Int) q) 75]
    have V1 : VoidL w [Cel pl (vp13 (.pointer none) (.pointer (some ⟨pn, 0, none⟩))) 26, LdC pn [] none, Cel px (ask13 (c : Int) q) 75] (.pointer (some ⟨pn, 0, none⟩)) := VoidL.zero (p := pn) (P := []) (by (repeat (first | (with_reducible exact List.mem_cons_self) | with_reducible apply List.mem_cons_of_mem)))
    obtain rfl | rfl | rfl : k' = 0 ∨ k' = 1 ∨ k' = 2 := by omega
    · have c0 := net13_V c q V0
      have c1 := debts13_V c V0
      clear V1 V0
      go_wp2_with (go_skip)
      refine wp_region_H H (by kernel_rfl) (by kernel_rfl) ?_
      repeat (first | go_big_quiet_skip | ((with_reducible apply wpQ_loadCH); (· first | exact cell_cur | exact cell_i64 | exact cell_ledp13); (· rfl); (· rfl); (· (repeat (first | (with_reducible exact List.mem_cons_self) | with_reducible apply List.mem_cons_of_mem))); (· (with_reducible first | exact ask13_g0 .. | exact ask13_g1 .. | exact vp13_g0 .. | exact vp13_g1 ..)); (simp only [Act.put, List.setIfInBounds_toArray, List.set_cons_zero, List.set_cons_succ])) | go_big_quiet_step ((with_reducible first | exact AnsH.quiet (by assumption) | exact Ans.quietH (by assumption))))
      refine wpQuiet_nil ?_
      clear H
      intro _ H
      go_wp2_with (go_skip)
      refine wp_region_H H (by kernel_rfl) (by kernel_rfl) ?_
      repeat (first | go_big_quiet_skip | ((with_reducible apply wpQ_loadCH); (· first | exact cell_cur | exact cell_i64 | exact cell_ledp13); (· rfl); (· rfl); (· (repeat (first | (with_reducible exact List.mem_cons_self) | with_reducible apply List.mem_cons_of_mem))); (· (with_reducible first | exact ask13_g0 .. | exact ask13_g1 .. | exact vp13_g0 .. | exact vp13_g1 ..)); (simp only [Act.put, List.setIfInBounds_toArray, List.set_cons_zero, List.set_cons_succ])) | go_big_quiet_step ((with_reducible first | exact AnsH.quiet (by assumption) | exact Ans.quietH (by assumption))))
      refine wpQuiet_nil ?_
      clear H
      intro _ H
      go_wp2_with (go_skip)
      go_roundw
      case rel => exact ⟨1, by omega, rfl, H⟩
      case measure => simp [intOf]
    · have c0 := net13_V c q V1
      have c1 := debts13_V c V1
      clear V1 V0
      go_wp2_with (go_skip)
      refine wp_region_H H (by kernel_rfl) (by kernel_rfl) ?_
      repeat (first | go_big_quiet_skip | ((with_reducible apply wpQ_loadCH); (· first | exact cell_cur | exact cell_i64 | exact cell_ledp13); (· rfl); (· rfl); (· (repeat (first | (with_reducible exact List.mem_cons_self) | with_reducible apply List.mem_cons_of_mem))); (· (with_reducible first | exact ask13_g0 .. | exact ask13_g1 .. | exact vp13_g0 .. | exact vp13_g1 ..)); (simp only [Act.put, List.setIfInBounds_toArray, List.set_cons_zero, List.set_cons_succ])) | go_big_quiet_step ((with_reducible first | exact AnsH.quiet (by assumption) | exact Ans.quietH (by assumption))))
      refine wpQuiet_nil ?_
      clear H
      intro _ H
      go_wp2_with (go_skip)
      refine wp_region_H H (by kernel_rfl) (by kernel_rfl) ?_
      repeat (first | go_big_quiet_skip | ((with_reducible apply wpQ_loadCH); (· first | exact cell_cur | exact cell_i64 | exact cell_ledp13); (· rfl); (· rfl); (· (repeat (first | (with_reducible exact List.mem_cons_self) | with_reducible apply List.mem_cons_of_mem))); (· (with_reducible first | exact ask13_g0 .. | exact ask13_g1 .. | exact vp13_g0 .. | exact vp13_g1 ..)); (simp only [Act.put, List.setIfInBounds_toArray, List.set_cons_zero, List.set_cons_succ])) | go_big_quiet_step ((with_reducible first | exact AnsH.quiet (by assumption) | exact Ans.quietH (by assumption))))
      refine wpQuiet_nil ?_
      clear H
      intro _ H
      go_wp2_with (go_skip)
      go_roundw
      case rel => exact ⟨2, by omega, rfl, H⟩
      case measure => simp [intOf]
    · clear V0 V1
      go_wp2_with (go_skip)
      refine (lives13_H H).mono ?_
      clear H
      rintro e w3 ⟨rfl, H⟩
      go_wp2_with (go_skip)
      go_ret
      exact ⟨rfl, H.low⟩
theorem nettingsVoid_law (v : Value) (w : World) (o : AskNArg w v) : Calls Try.prog 9 #[v] w fun e w' => e = .returned (.bool true) ∧ Below w.heap.size w w' := by
  obtain ⟨⟨c, q⟩, rfl, o1, o2⟩ := o
  exact nettingsVoid_walk c q w
end Go.Proofs.Ytgobnamhdkbbeaa
