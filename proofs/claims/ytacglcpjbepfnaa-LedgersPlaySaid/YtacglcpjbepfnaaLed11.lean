/- ledgers.Ledger: Copy; what nobody made. -/
import Derived.Test.YtacglcpjbepfnaaLed10
import Derived.Laws.Externs
namespace Go.Proofs.Ytacglcpjbepfnaa
open Go.RowKit
set_option linter.unusedSimpArgs false
set_option linter.unusedVariables false
theorem run_eql_mapL (p : Option Nat) (w : World) : (binOp .eql 66 (.map p) (.map none)).run Try.prog w = .ok (.bool p.isNone) w := run_eql_map_nil_sl w _ _ _ p Try.underlying66
section
variable {ops : Array Oper} {rest : List Oper} {a : Act} {w W : World} {l r s : List Thing} {Q : Exit → Act → World → Prop} {p q : Nat} {S : Lgr} {P : List Int} {m : Option Nat}
set_option maxRecDepth 100000
set_option maxHeartbeats 2000000
theorem lclone_C (b : Nat) (es : Array MapEntry) (clock : Nat) (w : World) (hb : w.heap[b]? = some (.map es clock)) :
    Calls Try.prog 78 #[.map (some b)] w fun e w' => e = .returned (.map (some w.heap.size)) ∧ w' = w.alloc (.map es clock) := by
  have hq := run_eql_mapL (some b)
  go_enter Try.func78, Try.ntmps78
  go_wp2_with (go_skip)
  rw [run_callFunc_extern Try.func118 (by kernel_rfl) (by kernel_rfl) (by kernel_rfl) (e := Extern.MapsClone.clone) (by kernel_rfl), run_maps_clone_sl w 66 hb]
  simp only [Result.andThen]
  rw [Oper.upon_value]
  go_wp2_with (go_skip)
  rw [run_typeAssert_map_sl _ 66 _ _ _ _ Try.underlying66]
  simp only [Result.andThen]
  rw [Oper.upon_value]
  go_wp2_with (go_skip)
  go_ret
  exact ⟨rfl, rfl⟩
theorem lclone_H {L : List Lin} (H : Heap W l w) (hm : LdM q L ∈ l) : Calls Try.prog 78 #[.map (some q)] w fun e w' => ∃ q', e = .returned (.map (some q')) ∧ Heap W (LdM q' L :: l) w' := by
  obtain ⟨es, clock, hb, hh⟩ := H.ok _ hm
  refine (lclone_C q es clock w hb).mono fun e w' ⟨he, hw⟩ => ?_
  subst hw
  exact ⟨_, he, H.add ⟨rfl, rfl, rfl, by simp, fun k hk _ => Below.heap_alloc _ _ _ hk⟩ ⟨es, clock, heap_alloc_new w _, hh⟩ (fun k hk => by cases hk; exact ⟨Nat.le_refl _, by simp⟩)⟩
theorem run_buildLed (P : List Int) (m : Option Nat) (w : World) : (Instr.build 68 #[(0, .agg (parA P)), (1, .map m)]).run Try.prog w = .ok (.agg (ledA P m)) w := by kernel_rfl
theorem wpQ_buildLed {K : Act → Prop} {H : Heap W l w} {dst : Option Tmp} {ty : TypeId} {pos : String} {after : Array Edge} {guard : Option (Nat × Bool)} {x y : Operand} (hw : Region.wanted ⟨dst, .build 68 #[(0, x), (1, y)], ty, pos, after, guard⟩ (yielded ops a.tmps) = true) (hx : a.eval x = .agg (parA P)) (hy : a.eval y = .map m)
    (h : wpQuiet Try.prog ops (fun w' => ∃ d, w' = H.any d) K rest (a.put dst (.agg (ledA P m)))) : wpQuiet Try.prog ops (fun w' => ∃ d, w' = H.any d) K (⟨dst, .build 68 #[(0, x), (1, y)], ty, pos, after, guard⟩ :: rest) a := by
  refine BigFrame.wpQuiet_want hw fun K hK => ⟨_, ?_, hK _ h⟩
  rintro _ ⟨d, rfl⟩
  unfold Oper.quietAt execOp
  simp only [List.map_toArray, List.map_cons, List.map_nil, hx, hy, Sem.run_bind, run_buildLed]
  exact ⟨rfl, rfl⟩
theorem lcopy_H (H : Heap W l w) (h1 : LdC p P (some q) ∈ l) (h2 : LdM q S.L ∈ l) : Calls Try.prog 17 #[.pointer (some ⟨p, 0, none⟩)] w fun e w' => ∃ p' q', e = .returned (.pointer (some ⟨p', 0, none⟩)) ∧ Heap W (LdC p' P (some q') :: LdM q' S.L :: l) w' := by
  go_enter Try.func17, Try.ntmps17
  go_wp2_with (first
    | go_skip
    | ((with_reducible apply lthere_call H); (· exact h1); (clear H; intro _ H)))
  refine wp_region_K0 [8, 10] [0, 1, 2, 3, 4, 5, 6, 7, 8, 9, 10, 11] H (by kernel_rfl) (by kernel_rfl) ?_
  iterate 8 (apply wpK_step; (· rfl); (· rfl); (· rfl); (· exact Nat.le_of_ble_eq_true rfl); (· intro l0 hs0 w0 H0; (first | go_big_quiet_skip | (first | ((with_reducible apply wpQ_loadRH row_par); (· rfl); (· rfl); (· exact hs0 _ h1); (· (simp only [ledA_sz, Nat.reduceAdd, Nat.reduceLeDiff]; done)); (· exact ledA_par _ _); (simp only [Act.put, List.setIfInBounds_toArray, List.set_cons_zero, List.set_cons_succ])) | ((with_reducible apply wpQ_loadCH); (· exact cell_map); (· rfl); (· rfl); (· exact hs0 _ h1); (· exact ledA_map _ _); (simp only [Act.put, List.setIfInBounds_toArray, List.set_cons_zero, List.set_cons_succ]))) | go_big_quiet_step (fail)); (refine wpQuiet_nil ?_); (simp only [Array.getD_eq_getD_getElem?, List.getElem?_toArray, List.getElem?_cons_succ, List.getElem?_cons_zero, Option.getD_some]; rfl)); (simp only [Act.put, List.setIfInBounds_toArray, List.set_cons_zero, List.set_cons_succ]))
  refine wpK_call (f := 78) (argl := [.map (some q)]) rfl rfl rfl Try.call78 rfl ?_
  intro w0 H0
  refine (lclone_H H0 h2).mono ?_
  clear H0
  rintro e w1 ⟨q', rfl, H1⟩
  refine ⟨_, _, rfl, H1, _, Keeps.refl _, fun t ht => List.mem_cons_of_mem _ ht, ?_⟩
  clear H1
  (simp only [Act.put, List.setIfInBounds_toArray, List.set_cons_zero, List.set_cons_succ])
  (apply wpK_step; (· rfl); (· rfl); (· rfl); (· exact Nat.le_of_ble_eq_true rfl); (· intro l0 hs0 w0 H0; (first | go_big_quiet_skip | ((with_reducible apply wpQ_buildLed); (· rfl); (· rfl); (· rfl); (simp only [Act.put, List.setIfInBounds_toArray, List.set_cons_zero, List.set_cons_succ])) | go_big_quiet_step (fail)); (refine wpQuiet_nil ?_); (simp only [Array.getD_eq_getD_getElem?, List.getElem?_toArray, List.getElem?_cons_succ, List.getElem?_cons_zero, Option.getD_some]; rfl)); (simp only [Act.put, List.setIfInBounds_toArray, List.set_cons_zero, List.set_cons_succ]))
  ((with_reducible apply wpK_boxR); (· rfl); (· rfl); (· rfl); (· rfl); (· exact fun t ht => List.mem_cons_of_mem _ ht); (intro p'); (simp only [Act.put, List.setIfInBounds_toArray, List.set_cons_zero, List.set_cons_succ]))
  (apply wpK_step; (· rfl); (· rfl); (· rfl); (· exact Nat.le_of_ble_eq_true rfl); (· intro l0 hs0 w0 H0; (first | go_big_quiet_skip | fail | go_big_quiet_step (fail)); (refine wpQuiet_nil ?_); (simp only [Array.getD_eq_getD_getElem?, List.getElem?_toArray, List.getElem?_cons_succ, List.getElem?_cons_zero, Option.getD_some]; rfl)); (simp only [Act.put, List.setIfInBounds_toArray, List.set_cons_zero, List.set_cons_succ]))
  (refine wpK_nil ?_; clear H; intro _ H)
  go_wp2_with (go_skip)
  go_ret
  exact ⟨p', q', rfl, H⟩
end
end Go.Proofs.Ytacglcpjbepfnaa
