/- The walk of LedgersVoid: whatever the act, the law returns true. -/
import Derived.Test.YtacglcpjbepfnaaLives03
import Derived.Test.YtacglcpjbepfnaaOpen03
namespace Go.Proofs.Ytacglcpjbepfnaa
open Go.RowKit
set_option linter.unusedSimpArgs false
set_option linter.unusedVariables false
def pp (a : Value) (b : Value) : Array Value := #[a, b]
section
variable (a : Value) (b : Value)
theorem pp_sz : (pp a b).size = 2 := rfl
theorem pp_g0 : (pp a b)[0]? = some (a) := rfl
theorem pp_s0 (v : Value) : (pp a b).setIfInBounds 0 (v) = pp v b := rfl
theorem pp_g1 : (pp a b)[1]? = some (b) := rfl
theorem pp_s1 (v : Value) : (pp a b).setIfInBounds 1 (v) = pp a v := rfl
end
theorem cell_pl : CellTy 28 := ⟨⟨_, Try.underlying28, rfl⟩, by kernel_rfl⟩
theorem cell_u8 : CellTy 5 := ⟨⟨_, Try.underlying5, rfl⟩, by kernel_rfl⟩
theorem pp_ones (pn : Nat) : ∀ v ∈ [Value.pointer none, .pointer (some ⟨pn, 0, none⟩)], v.cells = #[v] := by
  intro v hv
  simp at hv
  rcases hv with rfl | rfl <;> rfl
theorem bs_pp : Try.prog.underlying 69 = some (.slice 28) ∧ (Try.prog.info? 28).map (fun i => (i.size, i.zero)) = some (1, some (.pointer none)) := ⟨Try.underlying69, by kernel_rfl⟩
theorem VoidL.more {W : World} {l : List Thing} {v : Value} (h : VoidL W l v) (x : Thing) : VoidL W (x :: l) v := fun l' hl => h l' fun t ht => hl t (List.mem_cons_of_mem _ ht)
set_option maxRecDepth 100000
set_option maxHeartbeats 4000000
theorem ledgersVoid_walk (k a b c : Nat) (n : Int) (w : World) : Calls Try.prog 7 #[.agg (act k a b c n)] w fun e w' => e = .returned (.bool true) ∧ Below w.heap.size w w' := by
  have H := Heap.start w
  go_enter Try.func7, Try.ntmps7
  go_wp2_with (first
    | ((with_reducible show wpList _ _ _ (_ :: _) _ _); (with_reducible apply wpl_boxRH); (· rfl); (· rfl); (· exact H); (clear H; intro px _ H); (simp only [Act.put, List.setIfInBounds_toArray, List.set_cons_zero, List.set_cons_succ]))
    | ((with_reducible show wpList _ _ _ (_ :: _) _ _); (with_reducible apply wpl_allocRH row_led); (· rfl); (· exact H); (clear H; intro pn _ H); (simp only [Act.put, List.setIfInBounds_toArray, List.set_cons_zero, List.set_cons_succ]))
    | ((with_reducible show wpList _ _ _ (_ :: _) _ _); (with_reducible apply wpl_bsOnes _ [.pointer none, .pointer (some ⟨pn, 0, none⟩)]); (· rfl); (· rfl); (· rfl); (· decide); (· decide); (· exact pp_ones pn); (· exact bs_pp); (· rfl); (· exact H); (clear H; intro pl _ H); (change Heap _ (Cel pl (pp _ _) _ :: _) _ at H); (simp only [Act.put, List.setIfInBounds_toArray, List.set_cons_zero, List.set_cons_succ]))
    | go_skip)
  have H0 := H
  clear H
  go_loopw [5] (fun i wr => ∃ k' : Nat, k' ≤ 2 ∧ i = .int .i64 k' ∧ Heap w [Cel pl (pp (.pointer none) (.pointer (some ⟨pn, 0, none⟩))) 28, LdC pn [] none, Cel px (act k a b c n) 26] wr) (fun i _ => 2 - (intOf i).toNat)
  case atStart => exact ⟨0, by omega, rfl, H0⟩
  case round =>
    obtain ⟨k', hk, rfl, H⟩ := hrel
    simp only [List.append_eq, List.cons_append, List.nil_append]
    clear H0
    have V0 := VoidL.nil w [Cel pl (pp (.pointer none) (.pointer (some ⟨pn, 0, none⟩))) 28, LdC pn [] none, Cel px (act k a b c n) 26]
    have V1 : VoidL w [Cel pl (pp (.pointer none) (.pointer (some ⟨pn, 0, none⟩))) 28, LdC pn [] none, Cel px (act k a b c n) 26] (.pointer (some ⟨pn, 0, none⟩)) := VoidL.zero (p := pn) (P := []) (by (repeat (first | (with_reducible exact List.mem_cons_self) | with_reducible apply List.mem_cons_of_mem)))
    obtain rfl | rfl | rfl : k' = 0 ∨ k' = 1 ∨ k' = 2 := by omega
    · have c0 := lline_V a b c V0
      clear V1
      go_wp2_with (first
        | go_skip
        | ((with_reducible refine AnsH.call (by assumption) H ?_); clear H; intro _ H)
        | ((with_reducible show wpList _ _ _ (_ :: _) _ _); (with_reducible apply wpl_allocRH row_line); (· rfl); (· exact H); (clear H; intro py _ H); (simp only [Act.put, List.setIfInBounds_toArray, List.set_cons_zero, List.set_cons_succ]))
        | ((with_reducible show wpList _ _ _ (_ :: _) _ _); (with_reducible apply wpl_storeRH row_line); (· rfl); (· rfl); (· rfl); (· with_reducible exact line_cells ..); (· exact H); (· (repeat (first | (with_reducible exact List.mem_cons_self) | with_reducible apply List.mem_cons_of_mem))); (· (simp only [line_sz, Nat.reduceAdd, Nat.reduceLeDiff, Nat.le_refl]; done)); (· with_reducible exact line_splice ..); (· (repeat (first | (with_reducible exact Repl.here) | with_reducible apply Repl.there))); (clear H; intro _ H); (simp only [Act.put, List.setIfInBounds_toArray, List.set_cons_zero, List.set_cons_succ]))
        | ((with_reducible show wpList _ _ _ (_ :: _) _ _); (with_reducible apply wpl_loadCH); (· first | exact cell_party | exact cell_cur | exact cell_i64 | exact cell_pl); (· rfl); (· rfl); (· exact H); (· (repeat (first | (with_reducible exact List.mem_cons_self) | with_reducible apply List.mem_cons_of_mem))); (· (with_reducible first | exact act_g0 .. | exact act_g1 .. | exact act_g2 .. | exact act_g3 .. | exact act_g4 .. | exact act_g5 .. | exact act_g6 .. | exact act_g7 .. | exact act_g8 .. | exact act_g9 .. | exact act_g10 .. | exact act_g11 .. | exact act_g12 .. | exact act_g13 .. | exact act_g14 .. | exact act_g15 .. | exact act_g16 .. | exact act_g17 .. | exact act_g18 .. | exact act_g19 .. | exact pp_g0 .. | exact pp_g1 ..)); (simp only [Act.put, List.setIfInBounds_toArray, List.set_cons_zero, List.set_cons_succ])))
      have V := V0.more (Cel py (line 0 0 0 0 0) 39)
      clear c0 V0
      have c1 := lopen_V a V
      have c2 := ltrust_V a b c n V
      have c3 := lpush_V a b c n V
      have c4 := lforg_V a b c n V
      have c5 := lhas_V a V
      have c6 := lroom_V a b c V
      have c7 := lpos_V a c V
      have c8 := ltot_V c V
      have c9 := lparties_V V
      have c10 := llines_V V
      have c11 := lcopy_V V
      refine (c1 _ H).mono ?_
      clear H
      rintro _ w1 ⟨rfl, H⟩
      go_wp2_with (first
        | go_skip
        | ((with_reducible refine AnsH.call (by assumption) H ?_); clear H; intro _ H)
        | ((with_reducible show wpList _ _ _ (_ :: _) _ _); (with_reducible apply wpl_loadCH); (· first | exact cell_party | exact cell_cur | exact cell_i64 | exact cell_pl); (· rfl); (· rfl); (· exact H); (· (repeat (first | (with_reducible exact List.mem_cons_self) | with_reducible apply List.mem_cons_of_mem))); (· (with_reducible first | exact act_g0 .. | exact act_g1 .. | exact act_g2 .. | exact act_g3 .. | exact act_g4 .. | exact act_g5 .. | exact act_g6 .. | exact act_g7 .. | exact act_g8 .. | exact act_g9 .. | exact act_g10 .. | exact act_g11 .. | exact act_g12 .. | exact act_g13 .. | exact act_g14 .. | exact act_g15 .. | exact act_g16 .. | exact act_g17 .. | exact act_g18 .. | exact act_g19 .. | exact pp_g0 .. | exact pp_g1 ..)); (simp only [Act.put, List.setIfInBounds_toArray, List.set_cons_zero, List.set_cons_succ])))
      go_roundw
      case rel => exact ⟨1, by omega, rfl, H.tail⟩
      case measure => simp [intOf]
    · have c0 := lline_V a b c V1
      clear V0
      go_wp2_with (first
        | go_skip
        | ((with_reducible refine AnsH.call (by assumption) H ?_); clear H; intro _ H)
        | ((with_reducible show wpList _ _ _ (_ :: _) _ _); (with_reducible apply wpl_allocRH row_line); (· rfl); (· exact H); (clear H; intro py _ H); (simp only [Act.put, List.setIfInBounds_toArray, List.set_cons_zero, List.set_cons_succ]))
        | ((with_reducible show wpList _ _ _ (_ :: _) _ _); (with_reducible apply wpl_storeRH row_line); (· rfl); (· rfl); (· rfl); (· with_reducible exact line_cells ..); (· exact H); (· (repeat (first | (with_reducible exact List.mem_cons_self) | with_reducible apply List.mem_cons_of_mem))); (· (simp only [line_sz, Nat.reduceAdd, Nat.reduceLeDiff, Nat.le_refl]; done)); (· with_reducible exact line_splice ..); (· (repeat (first | (with_reducible exact Repl.here) | with_reducible apply Repl.there))); (clear H; intro _ H); (simp only [Act.put, List.setIfInBounds_toArray, List.set_cons_zero, List.set_cons_succ]))
        | ((with_reducible show wpList _ _ _ (_ :: _) _ _); (with_reducible apply wpl_loadCH); (· first | exact cell_party | exact cell_cur | exact cell_i64 | exact cell_pl); (· rfl); (· rfl); (· exact H); (· (repeat (first | (with_reducible exact List.mem_cons_self) | with_reducible apply List.mem_cons_of_mem))); (· (with_reducible first | exact act_g0 .. | exact act_g1 .. | exact act_g2 .. | exact act_g3 .. | exact act_g4 .. | exact act_g5 .. | exact act_g6 .. | exact act_g7 .. | exact act_g8 .. | exact act_g9 .. | exact act_g10 .. | exact act_g11 .. | exact act_g12 .. | exact act_g13 .. | exact act_g14 .. | exact act_g15 .. | exact act_g16 .. | exact act_g17 .. | exact act_g18 .. | exact act_g19 .. | exact pp_g0 .. | exact pp_g1 ..)); (simp only [Act.put, List.setIfInBounds_toArray, List.set_cons_zero, List.set_cons_succ])))
      have V := V1.more (Cel py (line 0 0 0 0 0) 39)
      clear c0 V1
      have c1 := lopen_V a V
      have c2 := ltrust_V a b c n V
      have c3 := lpush_V a b c n V
      have c4 := lforg_V a b c n V
      have c5 := lhas_V a V
      have c6 := lroom_V a b c V
      have c7 := lpos_V a c V
      have c8 := ltot_V c V
      have c9 := lparties_V V
      have c10 := llines_V V
      have c11 := lcopy_V V
      refine (c1 _ H).mono ?_
      clear H
      rintro _ w1 ⟨rfl, H⟩
      go_wp2_with (first
        | go_skip
        | ((with_reducible refine AnsH.call (by assumption) H ?_); clear H; intro _ H)
        | ((with_reducible show wpList _ _ _ (_ :: _) _ _); (with_reducible apply wpl_loadCH); (· first | exact cell_party | exact cell_cur | exact cell_i64 | exact cell_pl); (· rfl); (· rfl); (· exact H); (· (repeat (first | (with_reducible exact List.mem_cons_self) | with_reducible apply List.mem_cons_of_mem))); (· (with_reducible first | exact act_g0 .. | exact act_g1 .. | exact act_g2 .. | exact act_g3 .. | exact act_g4 .. | exact act_g5 .. | exact act_g6 .. | exact act_g7 .. | exact act_g8 .. | exact act_g9 .. | exact act_g10 .. | exact act_g11 .. | exact act_g12 .. | exact act_g13 .. | exact act_g14 .. | exact act_g15 .. | exact act_g16 .. | exact act_g17 .. | exact act_g18 .. | exact act_g19 .. | exact pp_g0 .. | exact pp_g1 ..)); (simp only [Act.put, List.setIfInBounds_toArray, List.set_cons_zero, List.set_cons_succ])))
      go_roundw
      case rel => exact ⟨2, by omega, rfl, H.tail⟩
      case measure => simp [intOf]
    · clear V0 V1
      go_wp2_with (go_skip)
      refine (lives03_H H).mono ?_
      clear H
      rintro e w3 ⟨rfl, H⟩
      go_wp2_with (go_skip)
      go_ret
      exact ⟨rfl, H.low⟩
end Go.Proofs.Ytacglcpjbepfnaa
