/- Part 6 of what ProofBooksPlay stands on: Bok13. -/
import Derived.Test.YtacglcpjbepfnaaBksPPart5
/- books: Copy. -/
namespace Go.Proofs.Ytacglcpjbepfnaa
open Go.RowKit
set_option linter.unusedSimpArgs false
set_option linter.unusedVariables false
set_option maxRecDepth 100000
section
variable {ops : Array Oper} {rest : List Oper} {a : Act} {W w : World} {l : List Thing} {K : Act → Prop}
theorem wpQ_buildBk2 {H : Heap W l w} {dst : Option Tmp} {ty : TypeId} {pos : String} {after : Array Edge} {guard : Option (Nat × Bool)} {x y : Operand} {ao : Option Addr} {m c : Nat} {n : Int} (hw : Region.wanted ⟨dst, .build 99 #[(0, x), (1, y)], ty, pos, after, guard⟩ (yielded ops a.tmps) = true) (hx : a.eval x = .slice ao m c) (hy : a.eval y = .int .u64 n)
    (h : wpQuiet Try.prog ops (fun w' => ∃ d, w' = H.any d) K rest (a.put dst (.agg (bkb (.slice ao m c) n)))) : wpQuiet Try.prog ops (fun w' => ∃ d, w' = H.any d) K (⟨dst, .build 99 #[(0, x), (1, y)], ty, pos, after, guard⟩ :: rest) a := by
  refine BigFrame.wpQuiet_want hw fun K hK => ⟨_, ?_, hK _ h⟩
  rintro _ ⟨d, rfl⟩
  unfold Oper.quietAt execOp
  simp only [List.map_toArray, List.map_cons, List.map_nil, hx, hy, Sem.run_bind, run_buildBk2]
  exact ⟨rfl, rfl⟩
end
section
variable {W w : World} {l : List Thing}
set_option maxHeartbeats 8000000
theorem bcopy_H {p n : Nat} {v : Value} {nx : Int} {L : List Ofr} (m1 : BkB p v nx ∈ l) (m2 : OfT v n L ∈ l) (h : 0 < nx) (hl : L.length = n) (hn : n ≤ 1000000) (H : Heap W l w) :
    Calls Try.prog 61 #[.pointer (some ⟨p, 0, none⟩)] w fun e w' => ∃ p' v', e = .returned (.pointer (some ⟨p', 0, none⟩)) ∧ Heap W (BkB p' v' nx :: OfT v' n L :: l) w' := by
  have T := bthere_yes (W := W) m1 h
  obtain ⟨va, c, rfl, hc1, hc2⟩ := RowT.form0 (H.ok _ m2)
  go_enter Try.func61, Try.ntmps61
  go_wp2_with (first
    | go_skip
    | ((with_reducible refine AnsH.call (by assumption) H ?_); clear H; intro _ H))
  refine wp_region_K0 [4, 10] [0, 1, 2, 3, 5, 6, 7, 8, 4, 9, 10, 11] H (by kernel_rfl) (by kernel_rfl) ?_
  iterate 8 (apply wpK_step; (· rfl); (· rfl); (· rfl); (· exact Nat.le_of_ble_eq_true rfl); (· intro l0 hs0 w0 H0; (first | go_big_quiet_skip | (first | ((with_reducible apply wpQ_loadCH); (· exact cell_ofrs); (· rfl); (· rfl); (· exact hs0 _ m1); (· exact bkb_g0 ..); (simp only [Act.put, List.setIfInBounds_toArray, List.set_cons_zero, List.set_cons_succ])) | ((with_reducible apply wpQ_loadCH); (· exact cell_u64); (· rfl); (· rfl); (· exact hs0 _ m1); (· exact bkb_g1 ..); (simp only [Act.put, List.setIfInBounds_toArray, List.set_cons_zero, List.set_cons_succ]))) | go_big_quiet_step (fail)); (refine wpQuiet_nil ?_); (simp only [Array.getD_eq_getD_getElem?, List.getElem?_toArray, List.getElem?_cons_succ, List.getElem?_cons_zero, Option.getD_some]; rfl)); (simp only [Act.put, List.setIfInBounds_toArray, List.set_cons_zero, List.set_cons_succ]))
  refine wpK_call (f := 101) (argl := [.slice va n c]) rfl rfl rfl Try.call101 rfl ?_
  intro w0 H0
  refine (cloneO_H va n c L hl hn (fun l' w' hh H' => H'.rowRd (hh _ m2)) H0).mono ?_
  clear H0
  rintro e w1 ⟨v2, rfl, H1⟩
  obtain ⟨a2, c2, rfl, _, _⟩ := RowT.form0 (H1.ok _ List.mem_cons_self)
  refine ⟨_, _, rfl, H1, _, Keeps.refl _, fun t ht => List.mem_cons_of_mem _ ht, ?_⟩
  clear H1
  (simp only [Act.put, List.setIfInBounds_toArray, List.set_cons_zero, List.set_cons_succ])
  (apply wpK_step; (· rfl); (· rfl); (· rfl); (· exact Nat.le_of_ble_eq_true rfl); (· intro l0 hs0 w0 H0; (first | go_big_quiet_skip | ((with_reducible apply wpQ_buildBk2); (· rfl); (· rfl); (· rfl); (simp only [Act.put, List.setIfInBounds_toArray, List.set_cons_zero, List.set_cons_succ])) | go_big_quiet_step (fail)); (refine wpQuiet_nil ?_); (simp only [Array.getD_eq_getD_getElem?, List.getElem?_toArray, List.getElem?_cons_succ, List.getElem?_cons_zero, Option.getD_some]; rfl)); (simp only [Act.put, List.setIfInBounds_toArray, List.set_cons_zero, List.set_cons_succ]))
  ((with_reducible apply wpK_boxR); (· rfl); (· rfl); (· rfl); (· rfl); (· exact fun t ht => List.mem_cons_of_mem _ ht); (intro p'); (simp only [Act.put, List.setIfInBounds_toArray, List.set_cons_zero, List.set_cons_succ]))
  (apply wpK_step; (· rfl); (· rfl); (· rfl); (· exact Nat.le_of_ble_eq_true rfl); (· intro l0 hs0 w0 H0; (first | go_big_quiet_skip | fail | go_big_quiet_step (fail)); (refine wpQuiet_nil ?_); (simp only [Array.getD_eq_getD_getElem?, List.getElem?_toArray, List.getElem?_cons_succ, List.getElem?_cons_zero, Option.getD_some]; rfl)); (simp only [Act.put, List.setIfInBounds_toArray, List.set_cons_zero, List.set_cons_succ]))
  (refine wpK_nil ?_; clear H; intro _ H)
  go_wp2_with (go_skip)
  go_ret
  exact ⟨_, _, rfl, H⟩
end
end Go.Proofs.Ytacglcpjbepfnaa
