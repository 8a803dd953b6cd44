/- graphs.Graph: Edges. -/
import Derived.Test.YtgobnamhdkbbeaaGraph3
import Derived.Test.YtgobnamhdkbbeaaHeapOwn
namespace Go.Proofs.Ytgobnamhdkbbeaa
open Go.RowKit
set_option linter.unusedSimpArgs false
set_option linter.unusedVariables false
theorem slF : SlTy Try.prog 24 32 3 16 (.agg (flow 0 0 0)) := slTy_mk Try.underlying24 (by kernel_rfl) rfl (by decide)
theorem bs_flow : Try.prog.underlying 24 = some (.slice 32) ∧ (Try.prog.info? 32).map (fun i => (i.size, i.zero.map Value.cells)) = some ((flow 0 0 0).size, some (flow 0 0 0)) ∧ 0 < (flow 0 0 0).size ∧ (flow 0 0 0).size ≤ 65536 := ⟨Try.underlying24, by kernel_rfl, by decide, by decide⟩
section
variable {ops : Array Oper} {rest : List Oper} {a : Act} {w : World} {Q : Exit → Act → World → Prop} {dst : Option Tmp} {ty : TypeId} {pos : String} {after : Array Edge} {guard : Option (Nat × Bool)} {p q : Operand}
theorem wpl_indexMat {c : Caps} {i : Nat} (hw : Region.wanted ⟨dst, .index 97 p q, ty, pos, after, guard⟩ (yielded ops a.tmps) = true) (hp : a.eval p = .agg (mat c)) (hq : a.eval q = .int .i64 (i : Int)) (hi : i < 17)
    (h : wpList Try.prog ops Q rest (a.put dst (.agg (row17 (c i)))) w) : wpList Try.prog ops Q (⟨dst, .index 97 p q, ty, pos, after, guard⟩ :: rest) a w := by
  refine wpl_pure hw _ (fun w => ?_) h
  have hu := Try.underlying97
  have hs : (sizeOf 95).run Try.prog w = .ok 17 w := by kernel_rfl
  have hp17 := part_row c i hi w
  unfold execOp
  simp only [hp, hq]
  simp [Instr.index, asIntOf, run_underlying hu, Sem.run_bind, hs, hi, hp17]
theorem wpl_indexRow {r : Nat → Int} {i : Nat} (hw : Region.wanted ⟨dst, .index 95 p q, ty, pos, after, guard⟩ (yielded ops a.tmps) = true) (hp : a.eval p = .agg (row17 r)) (hq : a.eval q = .int .i64 (i : Int)) (hi : i < 17)
    (h : wpList Try.prog ops Q rest (a.put dst (.int .i64 (r i))) w) : wpList Try.prog ops Q (⟨dst, .index 95 p q, ty, pos, after, guard⟩ :: rest) a w := by
  refine wpl_pure hw _ (fun w => ?_) h
  have hu := Try.underlying95
  have hs : (sizeOf 2).run Try.prog w = .ok 1 w := by kernel_rfl
  have hp17 := part_cell r i hi w
  rw [Nat.mul_one] at hp17
  unfold execOp
  simp only [hp, hq]
  simp [Instr.index, asIntOf, run_underlying hu, Sem.run_bind, hs, hi, hp17]
end
theorem row17_all (r : Nat → Int) : (row17 r).extract 0 (0 + 17) = row17 r := by
  have := row17_sz r
  simp [← this]
theorem row17_cells (r : Nat → Int) : Cells 17 (row17 r) := tab_cells fun i _ => rfl
theorem row17_splice (r s : Nat → Int) : splice (row17 r) 0 (row17 s) = row17 s := splice_all (by rw [row17_sz, row17_sz])
/-- The edges of a row, of the first ones of its places. -/
def rowE (c : Caps) (a : Nat) : Nat → List Flw
  | 0 => []
  | b + 1 => rowE c a b ++ if 0 < c a b then [⟨a, b, c a b⟩] else []
/-- All edges of the first rows, in order. -/
def matE (c : Caps) : Nat → List Flw
  | 0 => []
  | a + 1 => matE c a ++ rowE c a 17
def edgesOf (c : Caps) : List Flw := matE c 17
theorem rowE_len (c : Caps) (a : Nat) : ∀ b, (rowE c a b).length ≤ b
  | 0 => by simp [rowE]
  | b + 1 => by have := rowE_len c a b; simp only [rowE, List.length_append]; split <;> simp <;> omega
theorem matE_len (c : Caps) : ∀ a, (matE c a).length ≤ a * 17
  | 0 => by simp [matE]
  | a + 1 => by have := matE_len c a; have := rowE_len c a 17; simp only [matE, List.length_append]; omega
theorem flwL_app (F G : List Flw) : flwL (F ++ G) = flwL F ++ flwL G := by simp [flwL]
theorem flowC_one (f t n : Int) : OneCells (flow f t n).toList := by
  intro u hu
  simp [flow] at hu
  rcases hu with rfl | rfl | rfl <;> rfl
section
variable {W w : World} {l : List Thing} {p q : Nat} {c d : Caps} {m : Bool} {R : Ending → World → Prop}
set_option maxRecDepth 100000
set_option maxHeartbeats 1000000
theorem edges_nil : Ans 50 #[.pointer none] (.slice none 0 0) := by
  intro w
  have h := there_nil
  go_enter Try.func50, Try.ntmps50
  go_wp2_with (first | go_skip | ((with_reducible refine Ans.call (by assumption) ?_); intro _))
  go_ret
  exact ⟨rfl, (by repeat (first | exact Ext.refl _ | refine Ext.alloc ?_ _ | refine Ext.ext ?_ _ | refine Ext.drew ?_))⟩
theorem edges_zero (h : Cel p (gr c false) 99 ∈ l) : AnsH W l 50 #[.pointer (some ⟨p, 0, none⟩)] (.slice none 0 0) := by
  intro w H
  go_enter Try.func50, Try.ntmps50
  go_wp2_with (first | go_skip | ((with_reducible apply there_call H); (· exact h); (clear H; intro _ H)))
  go_ret
  exact ⟨rfl, H⟩
theorem clipF_nil : Ans 89 #[.slice none 0 0] (.slice none 0 0) := by
  intro w
  go_enter Try.func89, Try.ntmps89
  go_wp2
  go_ret
  exact ⟨rfl, (by repeat (first | exact Ext.refl _ | refine Ext.alloc ?_ _ | refine Ext.ext ?_ _ | refine Ext.drew ?_))⟩
theorem clipF (a : Addr) (n c : Nat) (hn : n ≤ c) (hc : c ≤ maxLen) : Ans 89 #[.slice (some a) n c] (.slice (some a) n n) := by
  intro w
  unfold maxLen at hc
  have ha : a.add 0 = a := by simp [Addr.add]
  go_enter Try.func89, Try.ntmps89
  go_wp2
  go_ret
  exact ⟨rfl, (by repeat (first | exact Ext.refl _ | refine Ext.alloc ?_ _ | refine Ext.ext ?_ _ | refine Ext.drew ?_))⟩
theorem edges_H (H : Heap W l w) (h : Gr p c ∈ l) : Calls Try.prog 50 #[.pointer (some ⟨p, 0, none⟩)] w (ListPost W l 32 3 (flwL (edgesOf c)) (edgesOf c).length) := by
  go_enter Try.func50, Try.ntmps50
  go_wp2_with (first
    | go_skip
    | ((with_reducible apply there_call H); (· exact h); (clear H; intro _ H))
    | ((with_reducible show wpList _ _ _ (_ :: _) _ _); (with_reducible apply wpl_loadRH row_mat); (· rfl); (· rfl); (· exact H); (· exact h); (· (simp only [gr_sz, Nat.reduceAdd, Nat.reduceLeDiff]; done)); (· exact gr_caps _ _); (simp only [Act.put, List.setIfInBounds_toArray, List.set_cons_zero, List.set_cons_succ])))
  have H0 := H.nilRow 32 3
  clear H
  go_loopw [2, 14] (fun v i wr => ∃ k : Nat, k ≤ 17 ∧ i = .int .i64 k ∧ ((matE c k).length = 0 → v = .slice none 0 0) ∧ Heap W (RowT 32 3 v (matE c k).length (flwL (matE c k)) :: l) wr) (fun _ i _ => 17 - (intOf i).toNat)
  case atStart => exact ⟨0, by omega, rfl, fun _ => rfl, H0⟩
  case round =>
    obtain ⟨k, hk, rfl, hz, H'⟩ := hrel
    have HZ := Lib.hid hz
    clear H0 hz
    have H := H'
    clear H'
    by_cases hlt : k < 17
    · go_wp2_with (first
        | go_skip
        | ((with_reducible show wpList _ _ _ (_ :: _) _ _); (with_reducible apply wpl_indexMat); (· rfl); (· rfl); (· rfl); (· exact hlt); (simp only [Act.put, List.setIfInBounds_toArray, List.set_cons_zero, List.set_cons_succ]))
        | ((with_reducible show wpList _ _ _ (_ :: _) _ _); (with_reducible apply wpl_allocRH row_17); (· rfl); (· exact H); (clear H; intro pr _ H); (simp only [Act.put, List.setIfInBounds_toArray, List.set_cons_zero, List.set_cons_succ]))
        | ((with_reducible show wpList _ _ _ (_ :: _) _ _); (with_reducible apply wpl_storeRH row_17); (· rfl); (· rfl); (· rfl); (· with_reducible exact row17_cells ..); (· exact H); (· (repeat (first | (with_reducible exact List.mem_cons_self) | with_reducible apply List.mem_cons_of_mem))); (· (simp only [row17_sz, Nat.reduceAdd, Nat.reduceLeDiff, Nat.le_refl]; done)); (· with_reducible exact row17_splice ..); (· (repeat (first | (with_reducible exact Repl.here) | with_reducible apply Repl.there))); (clear H; intro _ H); (simp only [Act.put, List.setIfInBounds_toArray, List.set_cons_zero, List.set_cons_succ]))
        | ((with_reducible show wpList _ _ _ (_ :: _) _ _); (with_reducible apply wpl_loadRH row_17); (· rfl); (· rfl); (· exact H); (· (repeat (first | (with_reducible exact List.mem_cons_self) | with_reducible apply List.mem_cons_of_mem))); (· (simp only [row17_sz, Nat.reduceAdd, Nat.reduceLeDiff, Nat.le_refl]; done)); (· with_reducible exact row17_all ..); (simp only [Act.put, List.setIfInBounds_toArray, List.set_cons_zero, List.set_cons_succ])))
      replace H := H.tail
      have H0 := H
      clear H
      rw [show matE c k = matE c k ++ rowE c k 0 by simp [rowE]] at H0
      go_loopw [2, 19] (fun v i wr => ∃ j : Nat, j ≤ 17 ∧ i = .int .i64 j ∧ ((matE c k ++ rowE c k j).length = 0 → v = .slice none 0 0) ∧ Heap W (RowT 32 3 v (matE c k ++ rowE c k j).length (flwL (matE c k ++ rowE c k j)) :: l) wr) (fun _ i _ => 17 - (intOf i).toNat)
      case atStart => exact ⟨0, by omega, rfl, fun h => HZ.out (by simpa [rowE] using h), H0⟩
      case round =>
        obtain ⟨j, hj, rfl, hz2, H'⟩ := hrel
        have HZ2 := Lib.hid hz2
        clear H0 hz2
        have H := H'
        clear H'
        by_cases hjt : j < 17
        · have hb : (matE c k ++ rowE c k j).length ≤ 289 := by have := matE_len c k; have := rowE_len c k j; simp only [List.length_append]; omega
          by_cases hpos : 0 < c k j
          · have hE : rowE c k (j + 1) = rowE c k j ++ [⟨k, j, c k j⟩] := by rw [rowE, if_pos hpos]
            have HE := Lib.hid hE
            clear hE
            have h1 : (matE c k ++ rowE c k j).length + 1 ≤ maxLen := by unfold maxLen; omega
            have h2 : ((matE c k ++ rowE c k j).length + 1) * 16 ≤ 140737488355328 := by omega
            go_wp2_with (first
              | go_skip
              | ((with_reducible show wpList _ _ _ (_ :: _) _ _); (with_reducible apply wpl_indexRow); (· rfl); (· rfl); (· rfl); (· exact hjt); (simp only [Act.put, List.setIfInBounds_toArray, List.set_cons_zero, List.set_cons_succ]))
              | ((with_reducible show wpList _ _ _ (_ :: _) _ _); (with_reducible apply wpl_bsRH); (· rfl); (· rfl); (· exact bs_flow); (· exact rfl); (· exact H); (clear H; intro pf _ H); (simp only [Act.put, List.setIfInBounds_toArray, List.set_cons_zero, List.set_cons_succ]))
              | ((with_reducible show wpList _ _ _ (_ :: _) _ _); (with_reducible apply wpl_appendH slF); (· rfl); (· rfl); (· rfl); (· rfl); (· exact H.perm (.swap _ _ _)); (· exact H.celRd List.mem_cons_self); (· rfl); (· exact flowC_one _ _ _); (· exact h1); (· exact h2); (clear H; intro v2 _ H); (simp only [Act.put, List.setIfInBounds_toArray, List.set_cons_zero, List.set_cons_succ])))
            go_roundw
            case rel =>
              refine ⟨j + 1, by omega, by go_num, ?_⟩
              have e1 : matE c k ++ rowE c k (j + 1) = (matE c k ++ rowE c k j) ++ [⟨k, j, c k j⟩] := by rw [HE.out, List.append_assoc]
              rw [e1, flwL_app]
              rw [List.length_append]
              exact ⟨fun h => by simp at h, H.drop (.there .here)⟩
            case measure => simp [intOf]; omega
          · have hE : rowE c k (j + 1) = rowE c k j := by rw [rowE, if_neg hpos]; simp
            have HE := Lib.hid hE
            clear hE
            go_wp2_with (first
              | go_skip
              | ((with_reducible show wpList _ _ _ (_ :: _) _ _); (with_reducible apply wpl_indexRow); (· rfl); (· rfl); (· rfl); (· exact hjt); (simp only [Act.put, List.setIfInBounds_toArray, List.set_cons_zero, List.set_cons_succ])))
            go_roundw
            case rel => exact ⟨j + 1, by omega, by go_num, by rw [HE.out]; exact ⟨HZ2.out, H⟩⟩
            case measure => simp [intOf]; omega
        · obtain rfl : j = 17 := by omega
          go_wp2_with fail
          go_roundw
          case rel => exact ⟨k + 1, by omega, by go_num, HZ2.out, H⟩
          case measure => simp [intOf]; omega
    · obtain rfl : k = 17 := by omega
      have H2 := H
      rw [show matE c 17 = edgesOf c from rfl] at H2
      have hlen : (edgesOf c).length ≤ 289 := matE_len c 17
      clear H
      have H := H2
      clear H2
      have HZ3 := Lib.hid (show (edgesOf c).length = 0 → u2 = .slice none 0 0 from HZ.out)
      clear HZ
      generalize edgesOf c = E at *
      by_cases h0 : E.length = 0
      · obtain rfl := HZ3.out h0
        have hcl := clipF_nil
        have H0 := Lib.hid h0
        clear h0
        go_wp2_with ((with_reducible refine Ans.callH (by assumption) H ?_); clear H; intro _ H)
        go_ret
        exact ListPost.nil H0.out H.tail
      · obtain ⟨g, cc, rfl, hc, hm⟩ := RowT.sl (H.ok _ List.mem_cons_self) (by omega)
        have hcl := clipF ⟨g, 0, none⟩ E.length cc hc hm
        have hp : 0 < E.length := by omega
        have HP := Lib.hid hp
        clear hp h0
        generalize hn : E.length = n at *
        have HN := Lib.hid hn
        clear hn
        go_wp2_with ((with_reducible refine Ans.callH (by assumption) H ?_); clear H; intro _ H)
        go_ret
        exact ListPost.some HP.out g cc hc H
end
end Go.Proofs.Ytgobnamhdkbbeaa
