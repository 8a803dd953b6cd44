/- books: Find, Place. -/
import Derived.Test.YtacglcpjbepfnaaBok3
import Derived.Test.YtacglcpjbepfnaaHeapSoft
namespace Go.Proofs.Ytacglcpjbepfnaa
open Go.RowKit
set_option linter.unusedSimpArgs false
set_option linter.unusedVariables false
set_option maxRecDepth 100000
abbrev ofrZ : Ofr := ⟨0, 0, 0, 0, 0, 0, 0⟩
/-- What Find answers. -/
def findV (L : List Ofr) (s : Int) : Value := match findO L s with
  | some o => .tuple #[.agg (ofrA o), .bool true]
  | none => .tuple #[.agg (ofrA ofrZ), .bool false]
theorem findV_some {L : List Ofr} {s : Int} {o : Ofr} (h : findO L s = some o) : findV L s = .tuple #[.agg (ofrA o), .bool true] := by unfold findV; rw [h]
theorem findV_none {L : List Ofr} {s : Int} (h : findO L s = none) : findV L s = .tuple #[.agg (ofrA ofrZ), .bool false] := by unfold findV; rw [h]
theorem run_buildO0 (w : World) : (Instr.build 83 #[]).run Try.prog w = .ok (.agg (ofrA ofrZ)) w := by kernel_rfl
theorem run_buildO (o : Ofr) (w : World) : (Instr.build 83 #[(0, .int .u64 o.sq), (1, .int .u8 o.ow), (2, .int .u8 o.se), (3, .int .u8 o.bu), (4, .int .i64 o.le), (5, .agg #[.int .i64 o.nu, .int .i64 o.de])]).run Try.prog w = .ok (.agg (ofrA o)) w := by kernel_rfl
section
variable {ops : Array Oper} {rest : List Oper} {a : Act} {W w : World} {l : List Thing} {K : Act → Prop} {Q : Exit → Act → World → Prop} {dst : Option Tmp} {ty : TypeId} {pos : String} {after : Array Edge} {guard : Option (Nat × Bool)}
theorem wpl_buildO0 (hw : Region.wanted ⟨dst, .build 83 #[], ty, pos, after, guard⟩ (yielded ops a.tmps) = true)
    (h : wpList Try.prog ops Q rest (a.put dst (.agg (ofrA ofrZ))) w) : wpList Try.prog ops Q (⟨dst, .build 83 #[], ty, pos, after, guard⟩ :: rest) a w := by
  refine wpl_pure hw _ (fun w => ?_) h
  unfold execOp
  simp only [List.map_toArray, List.map_nil, Sem.run_bind, run_buildO0, Result.andThen_ok, Sem.run_pure]
theorem wpQ_buildO {H : Heap W l w} {x0 x1 x2 x3 x4 x5 : Operand} {sq ow se bu le nu de : Int} (hw : Region.wanted ⟨dst, .build 83 #[(0, x0), (1, x1), (2, x2), (3, x3), (4, x4), (5, x5)], ty, pos, after, guard⟩ (yielded ops a.tmps) = true)
    (h0 : a.eval x0 = .int .u64 sq) (h1 : a.eval x1 = .int .u8 ow) (h2 : a.eval x2 = .int .u8 se) (h3 : a.eval x3 = .int .u8 bu) (h4 : a.eval x4 = .int .i64 le) (h5 : a.eval x5 = .agg #[.int .i64 nu, .int .i64 de])
    (h : wpQuiet Try.prog ops (fun w' => ∃ d, w' = H.any d) K rest (a.put dst (.agg (ofrA ⟨sq, ow, se, bu, le, nu, de⟩)))) : wpQuiet Try.prog ops (fun w' => ∃ d, w' = H.any d) K (⟨dst, .build 83 #[(0, x0), (1, x1), (2, x2), (3, x3), (4, x4), (5, x5)], ty, pos, after, guard⟩ :: rest) a := by
  refine BigFrame.wpQuiet_want hw fun K hK => ⟨_, ?_, hK _ h⟩
  rintro _ ⟨d, rfl⟩
  unfold Oper.quietAt execOp
  simp only [List.map_toArray, List.map_cons, List.map_nil, h0, h1, h2, h3, h4, h5, Sem.run_bind, run_buildO ⟨sq, ow, se, bu, le, nu, de⟩]
  exact ⟨rfl, rfl⟩
end
section
variable {W : World} {G E : List Thing → Prop} {loud hard : List Nat} {K : List Thing → Act → Prop} {l r : List Thing} {a : Act} {lo : List Oper} {ks : List Nat} {k : Nat} {dst : Option Tmp} {ty : TypeId} {pos : String} {after : Array Edge}
theorem wpF_storeC {T : TypeId} {guard : Option (Nat × Bool)} {x y : Operand} {b off : Nat} {v : Value} (CT : CellTy T) (ho : lo[k]? = some ⟨dst, .store T x y, ty, pos, after, guard⟩) (hk : loud.contains k = true) (hw : Region.wanted ⟨dst, .store T x y, ty, pos, after, guard⟩ (yielded lo.toArray a.tmps) = true) (hx : a.eval x = .pointer (some ⟨b, off, none⟩)) (hy : a.eval y = v) (hc : v.cells = #[v] ∧ v.oneCell' = true)
    {c c1 : Array Value} {t : TypeId} {l' : List Thing} (m : Cel b c t ∈ l) (hn : off < c.size) (hs : c.setIfInBounds off v = c1) (r : Repl l (Cel b c t) (Cel b c1 t) l') (hh : hard.contains k = true) (hG : G l')
    (h : wpF Try.prog lo.toArray W G E loud hard K ks l' (a.put dst undef)) : wpF Try.prog lo.toArray W G E loud hard K (k :: ks) l a := by
  subst hs
  refine wpF_loud ho hk ⟨hw, fun w H => ⟨l', undef, setBlk w b (c.setIfInBounds off v), .inr ⟨?_, rfl⟩, H.set r, hG, fun e => absurd hh (by rw [e]; exact Bool.false_ne_true), h⟩⟩
  unfold execOp
  simp only [hx, hy, Sem.run_bind, run_storeC CT hc (H.blk m) hn, Result.andThen_ok]
  rfl
end
section
variable {W w : World} {l : List Thing}
set_option maxHeartbeats 8000000
theorem find_nil (s : Int) : Ans 56 #[.pointer none, .int .u64 s] (.tuple #[.agg (ofrA ofrZ), .bool false]) := by
  intro w
  have T := bthere_nil
  have H := Heap.start w
  go_enter Try.func56, Try.ntmps56
  go_wp2_with (first
    | ((with_reducible show wpList _ _ _ (_ :: _) _ _); (with_reducible apply wpl_allocRH row_ofr); (· rfl); (· exact H); (clear H; intro px _ H); (simp only [Act.put, List.setIfInBounds_toArray, List.set_cons_zero, List.set_cons_succ]))
    | ((with_reducible show wpList _ _ _ (_ :: _) _ _); (with_reducible apply wpl_buildO0); (· rfl); (simp only [Act.put, List.setIfInBounds_toArray, List.set_cons_zero, List.set_cons_succ]))
    | go_skip
    | ((with_reducible refine Ans.callH (by assumption) H ?_); clear H; intro _ H)
    | ((with_reducible show wpList _ _ _ (_ :: _) _ _); (with_reducible apply wpl_storeRH row_ofr); (· rfl); (· rfl); (· rfl); (· with_reducible exact ofr_cells ..); (· exact H); (· (repeat (first | (with_reducible exact List.mem_cons_self) | with_reducible apply List.mem_cons_of_mem))); (· (simp only [ofrA_sz, Nat.reduceAdd, Nat.reduceLeDiff, Nat.le_refl]; done)); (· with_reducible exact ofr_splice ..); (· (repeat (first | (with_reducible exact Repl.here) | with_reducible apply Repl.there))); (clear H; intro _ H); (simp only [Act.put, List.setIfInBounds_toArray, List.set_cons_zero, List.set_cons_succ])))
  refine ret_row2H row_ofr rfl rfl rfl H List.mem_cons_self rfl rfl ?_
  exact ⟨rfl, H.tail.low⟩
theorem find_zero {p : Nat} {v : Value} (s : Int) (m : BkB p v 0 ∈ l) : AnsH W l 56 #[.pointer (some ⟨p, 0, none⟩), .int .u64 s] (.tuple #[.agg (ofrA ofrZ), .bool false]) := by
  intro w H
  have T := fun px c t => bthere_zero (W := W) (l := Cel px c t :: l) (List.mem_cons_of_mem _ m)
  go_enter Try.func56, Try.ntmps56
  go_wp2_with (first
    | ((with_reducible show wpList _ _ _ (_ :: _) _ _); (with_reducible apply wpl_allocRH row_ofr); (· rfl); (· exact H); (clear H; intro px _ H); (simp only [Act.put, List.setIfInBounds_toArray, List.set_cons_zero, List.set_cons_succ]))
    | ((with_reducible show wpList _ _ _ (_ :: _) _ _); (with_reducible apply wpl_buildO0); (· rfl); (simp only [Act.put, List.setIfInBounds_toArray, List.set_cons_zero, List.set_cons_succ]))
    | go_skip
    | ((with_reducible refine AnsH.call (T _ _ _) H ?_); clear H; intro _ H)
    | ((with_reducible show wpList _ _ _ (_ :: _) _ _); (with_reducible apply wpl_storeRH row_ofr); (· rfl); (· rfl); (· rfl); (· with_reducible exact ofr_cells ..); (· exact H); (· (repeat (first | (with_reducible exact List.mem_cons_self) | with_reducible apply List.mem_cons_of_mem))); (· (simp only [ofrA_sz, Nat.reduceAdd, Nat.reduceLeDiff, Nat.le_refl]; done)); (· with_reducible exact ofr_splice ..); (· (repeat (first | (with_reducible exact Repl.here) | with_reducible apply Repl.there))); (clear H; intro _ H); (simp only [Act.put, List.setIfInBounds_toArray, List.set_cons_zero, List.set_cons_succ])))
  refine ret_row2H row_ofr rfl rfl rfl H List.mem_cons_self rfl rfl ?_
  exact ⟨rfl, H.tail⟩
theorem find_H {p n : Nat} {v : Value} {nx : Int} {L : List Ofr} (s : Int) (m1 : BkB p v nx ∈ l) (m2 : OfT v n L ∈ l) (h : 0 < nx) (hl : L.length = n) (hn : n ≤ 1000000) : AnsH W l 56 #[.pointer (some ⟨p, 0, none⟩), .int .u64 s] (findV L s) := by
  intro w H
  obtain ⟨va, c, rfl, hc1, hc2⟩ := RowT.form0 (H.ok _ m2)
  have T := fun px c t => bthere_yes (W := W) (l := Cel px c t :: l) (List.mem_cons_of_mem _ m1) h
  have T2 := fun px c t => at_H (W := W) (l := Cel px c t :: l) s (List.mem_cons_of_mem _ m1) (List.mem_cons_of_mem _ m2) hl hn
  cases hf : findO L s with
  | none =>
    rw [findV_none hf]
    rw [idxO_none hf] at T2
    clear hf
    go_enter Try.func56, Try.ntmps56
    go_wp2_with (first
      | ((with_reducible show wpList _ _ _ (_ :: _) _ _); (with_reducible apply wpl_allocRH row_ofr); (· rfl); (· exact H); (clear H; intro px _ H); (simp only [Act.put, List.setIfInBounds_toArray, List.set_cons_zero, List.set_cons_succ]))
      | ((with_reducible show wpList _ _ _ (_ :: _) _ _); (with_reducible apply wpl_buildO0); (· rfl); (simp only [Act.put, List.setIfInBounds_toArray, List.set_cons_zero, List.set_cons_succ]))
      | go_skip
      | ((with_reducible refine AnsH.call (T _ _ _) H ?_); clear H; intro _ H)
      | ((with_reducible refine AnsH.call (T2 _ _ _) H ?_); clear H; intro _ H)
      | ((with_reducible show wpList _ _ _ (_ :: _) _ _); (with_reducible apply wpl_storeRH row_ofr); (· rfl); (· rfl); (· rfl); (· with_reducible exact ofr_cells ..); (· exact H); (· (repeat (first | (with_reducible exact List.mem_cons_self) | with_reducible apply List.mem_cons_of_mem))); (· (simp only [ofrA_sz, Nat.reduceAdd, Nat.reduceLeDiff, Nat.le_refl]; done)); (· with_reducible exact ofr_splice ..); (· (repeat (first | (with_reducible exact Repl.here) | with_reducible apply Repl.there))); (clear H; intro _ H); (simp only [Act.put, List.setIfInBounds_toArray, List.set_cons_zero, List.set_cons_succ])))
    refine ret_row2H row_ofr rfl rfl rfl H List.mem_cons_self rfl rfl ?_
    exact ⟨rfl, H.tail⟩
  | some o =>
    obtain ⟨hi, hg, hlt⟩ := idxO_some hf
    rw [findV_some hf]
    rw [hi] at T2
    have ho : L[iO L s] = o := by rw [List.getElem?_eq_getElem hlt] at hg; exact Option.some.inj hg
    have hrow := ofrL_get L (iO L s) hlt
    rw [ho] at hrow
    have hlen : iO L s * 7 + 7 ≤ (ofrL L).length := by rw [ofrL_len]; omega
    have hin : iO L s < n := by omega
    have Rw := H.rowRd m2
    obtain ⟨ba, oa, rfl, _⟩ := Rw.lt (by omega)
    have HN := Lib.hid (⟨hf, hi, hg, hl, ho⟩ : _ ∧ _ ∧ _ ∧ _ ∧ _)
    clear hf hi hg ho hl
    generalize iO L s = k at *
    go_enter Try.func56, Try.ntmps56
    go_wp2_with (first
      | ((with_reducible show wpList _ _ _ (_ :: _) _ _); (with_reducible apply wpl_allocRH row_ofr); (· rfl); (· exact H); (clear H; intro px _ H); (simp only [Act.put, List.setIfInBounds_toArray, List.set_cons_zero, List.set_cons_succ]))
      | go_skip
      | ((with_reducible refine AnsH.call (T _ _ _) H ?_); clear H; intro _ H)
      | ((with_reducible refine AnsH.call (T2 _ _ _) H ?_); clear H; intro _ H)
      | ((with_reducible show wpList _ _ _ (_ :: _) _ _); (with_reducible apply wpl_loadCH); (· exact cell_ofrs); (· rfl); (· rfl); (· exact H); (· exact List.mem_cons_of_mem _ m1); (· exact bkb_g0 ..); (simp only [Act.put, List.setIfInBounds_toArray, List.set_cons_zero, List.set_cons_succ]))
      | ((with_reducible show wpList _ _ _ (_ :: _) _ _); (with_reducible apply wpl_loadRdR row_ofr); (· rfl); (· rfl); (· exact H.rowRd (List.mem_cons_of_mem _ m2)); (· rfl); (· exact hlen); (· decide); (· exact hrow); (simp only [Act.put, List.setIfInBounds_toArray, List.set_cons_zero, List.set_cons_succ]))
      | ((with_reducible show wpList _ _ _ (_ :: _) _ _); (with_reducible apply wpl_storeRH row_ofr); (· rfl); (· rfl); (· rfl); (· with_reducible exact ofr_cells ..); (· exact H); (· (repeat (first | (with_reducible exact List.mem_cons_self) | with_reducible apply List.mem_cons_of_mem))); (· (simp only [ofrA_sz, Nat.reduceAdd, Nat.reduceLeDiff, Nat.le_refl]; done)); (· with_reducible exact ofr_splice ..); (· (repeat (first | (with_reducible exact Repl.here) | with_reducible apply Repl.there))); (clear H; intro _ H); (simp only [Act.put, List.setIfInBounds_toArray, List.set_cons_zero, List.set_cons_succ])))
    refine ret_row2H row_ofr rfl rfl rfl H List.mem_cons_self rfl rfl ?_
    exact ⟨rfl, H.tail⟩
end
end Go.Proofs.Ytacglcpjbepfnaa
