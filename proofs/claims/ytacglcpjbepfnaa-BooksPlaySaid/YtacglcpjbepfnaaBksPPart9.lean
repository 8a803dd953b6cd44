/- Part 9 of what ProofBooksPlay stands on: Ref4b. -/
import Derived.Test.YtacglcpjbepfnaaBksPPart8
/- countinghouseref04: Find, set, Cancel, Take, Place. (Printed by gen/ref4b.py.) -/
namespace Go.Proofs.Ytacglcpjbepfnaa
open Go.RowKit
set_option linter.unusedSimpArgs false
set_option linter.unusedVariables false
set_option maxRecDepth 100000
theorem ofr_sle (x : Ofr) (v : Int) : (ofrA x).setIfInBounds 4 (.int .i64 v) = ofrA { x with le := v } := rfl
theorem ofr_bs (o : Ofr) : (ofrA o).size = (ofrA ofrZ).size := rfl
theorem setO_snoc {L : List Ofr} {k : Nat} {x : Ofr} (s v : Int) (h : L[k]? = some x) : setO (L.take (k + 1)) s v = setO (L.take k) s v ++ (if 0 < (if x.sq = s then { x with le := v } else x : Ofr).le then [(if x.sq = s then { x with le := v } else x : Ofr)] else []) := by
  unfold setO
  rw [List.take_add_one, h, Option.toList_some, List.map_append, List.filter_append]
  congr 1
  simp only [List.map_cons, List.map_nil, List.filter_cons, List.filter_nil, decide_eq_true_eq]
structure RFindR (W : World) (l : List Thing) (L : List Ofr) (s : Int) (pr n : Nat) (i : Value) (wr : World) : Prop where
  out : ∃ k : Nat, k ≤ iO L s ∧ k ≤ n ∧ i = .int .i64 (k : Int) ∧ Heap W (Cel pr (ofrA ofrZ) 83 :: l) wr
structure RSetR (W : World) (l : List Thing) (p : Nat) (a : Option Addr) (c : Nat) (nx : Int) (L : List Ofr) (s v : Int) (n : Nat) (vo i : Value) (wr : World) : Prop where
  out : ∃ (k m : Nat) (M : List Ofr), k ≤ n ∧ i = .int .i64 (k : Int) ∧ M = setO (L.take k) s v ∧ M.length = m ∧ Heap W (OfT vo m M :: RBk p (.slice a n c) nx :: OfT (.slice a n c) n L :: l) wr
section
variable {W w : World} {l : List Thing}
set_option maxHeartbeats 8000000
theorem rfind4_H {p n c : Nat} {a : Option Addr} {nx : Int} {L : List Ofr} (s : Int) (m1 : RBk p (.slice a n c) nx ∈ l) (m2 : OfT (.slice a n c) n L ∈ l) (hl : L.length = n) (hn : n ≤ 1000000) : AnsH W l 74 #[.pointer (some ⟨p, 0, none⟩), .int .u64 s] (findV L s) := by
  intro w H
  have HL := Lib.hid hl
  clear hl
  go_enter Try.func74, Try.ntmps74
  go_wp2_with (first | ((with_reducible show wpList _ _ _ (_ :: _) _ _); (with_reducible apply wpl_allocRH row_ofr); (· rfl); (· exact H); (clear H; intro pr _ H); (simp only [Act.put, List.setIfInBounds_toArray, List.set_cons_zero, List.set_cons_succ])) | go_skip)
  have H0 := H
  clear H
  go_loopw [6] (fun i wr => RFindR W l L s pr n i wr) (fun i _ => n - (intOf i).toNat)
  case atStart => exact ⟨0, Nat.zero_le _, Nat.zero_le _, rfl, H0⟩
  case round =>
    obtain ⟨k, hki, hk, rfl, H⟩ := hrel.out
    clear H0 hrel
    have HI := Lib.hid hki
    clear hki
    have Rw := H.rowRd (List.mem_cons_of_mem _ m2)
    by_cases hlt : k < n
    · have hkL : k < L.length := by rw [HL.out]; exact hlt
      have hrow := ofrL_get L k hkL
      have hlen1 : k * 7 + 7 ≤ (ofrL L).length := by rw [ofrL_len]; omega
      have hgk : L[k]? = some L[k] := List.getElem?_eq_getElem hkL
      have hb := fun (h : k < iO L s) => iO_before h hgk
      have hs := fun (h : k = iO L s) => (findO_iO L s).trans (by rw [← h])
      obtain ⟨ba, oa, rfl, _⟩ := Rw.lt (by omega)
      by_cases hq : k < iO L s
      · have d1 : (L[k].sq == s) = false := hb hq
        have HG := Lib.hid (And.intro hgk (show k + 1 ≤ iO L s by omega))
        clear hb hs hq hgk
        generalize L[k] = x at *
        go_wp2_with (first
          | go_skip
          | ((with_reducible show wpList _ _ _ (_ :: _) _ _); (with_reducible apply wpl_loadCH); (· exact cell_ofrs); (· rfl); (· rfl); (· exact H); (· exact List.mem_cons_of_mem _ m1); (· exact bkb_g0 ..); (simp only [Act.put, List.setIfInBounds_toArray, List.set_cons_zero, List.set_cons_succ]))
          | ((with_reducible show wpList _ _ _ (_ :: _) _ _); (with_reducible apply wpl_loadCell cell_u64); (· rfl); (· rfl); (· exact rd_ofr (H.rowRd (List.mem_cons_of_mem _ m2)) HG.out.1 (j := 0) rfl); (simp only [Act.put, List.setIfInBounds_toArray, List.set_cons_zero, List.set_cons_succ])))
        refine ⟨⟨k + 1, HG.out.2, by omega, by go_num, H⟩, ?measure⟩
        case measure => simp [intOf]; omega
      · have he : k = iO L s := by have := HI.out; omega
        have d1 : (L[k].sq == s) = true := by
          have := iO_at (L := L) (s := s) (by omega)
          simpa [← he] using this
        have HF := Lib.hid (show findV L s = .tuple #[.agg (ofrA L[k]), .bool true] from findV_some ((hs he).trans hgk))
        have HG := Lib.hid hgk
        clear hb hs hq hgk he HI
        generalize L[k] = x at *
        go_wp2_with (first
          | go_skip
          | ((with_reducible show wpList _ _ _ (_ :: _) _ _); (with_reducible apply wpl_loadCH); (· exact cell_ofrs); (· rfl); (· rfl); (· exact H); (· exact List.mem_cons_of_mem _ m1); (· exact bkb_g0 ..); (simp only [Act.put, List.setIfInBounds_toArray, List.set_cons_zero, List.set_cons_succ]))
          | ((with_reducible show wpList _ _ _ (_ :: _) _ _); (with_reducible apply wpl_loadCell cell_u64); (· rfl); (· rfl); (· exact rd_ofr (H.rowRd (List.mem_cons_of_mem _ m2)) HG.out (j := 0) rfl); (simp only [Act.put, List.setIfInBounds_toArray, List.set_cons_zero, List.set_cons_succ]))
          | ((with_reducible show wpList _ _ _ (_ :: _) _ _); (with_reducible apply wpl_loadRdR row_ofr); (· rfl); (· rfl); (· exact H.rowRd (List.mem_cons_of_mem _ m2)); (· rfl); (· exact hlen1); (· decide); (· exact hrow); (simp only [Act.put, List.setIfInBounds_toArray, List.set_cons_zero, List.set_cons_succ]))
          | ((with_reducible show wpList _ _ _ (_ :: _) _ _); (with_reducible apply wpl_storeRH row_ofr); (· rfl); (· rfl); (· rfl); (· with_reducible exact ofr_cells ..); (· exact H); (· (repeat (first | (with_reducible exact List.mem_cons_self) | with_reducible apply List.mem_cons_of_mem))); (· (simp only [ofrA_sz, Nat.reduceAdd, Nat.reduceLeDiff, Nat.le_refl]; done)); (· with_reducible exact ofr_splice ..); (· (repeat (first | (with_reducible exact Repl.here) | with_reducible apply Repl.there))); (clear H; intro _ H); (simp only [Act.put, List.setIfInBounds_toArray, List.set_cons_zero, List.set_cons_succ])))
        refine ret_row2H row_ofr rfl rfl rfl H List.mem_cons_self rfl rfl ?_
        rw [HF.out]
        exact ⟨rfl, H.tail⟩
    · obtain rfl : k = n := by omega
      have HF := Lib.hid (show findV L s = .tuple #[.agg (ofrA ofrZ), .bool false] from findV_none (by
        rw [findO_iO, List.getElem?_eq_none]
        have := HI.out; have := HL.out; omega))
      clear HI
      go_wp2_with (first
        | ((with_reducible show wpList _ _ _ (_ :: _) _ _); (with_reducible apply wpl_buildO0); (· rfl); (simp only [Act.put, List.setIfInBounds_toArray, List.set_cons_zero, List.set_cons_succ]))
        | go_skip
        | ((with_reducible show wpList _ _ _ (_ :: _) _ _); (with_reducible apply wpl_loadCH); (· exact cell_ofrs); (· rfl); (· rfl); (· exact H); (· exact List.mem_cons_of_mem _ m1); (· exact bkb_g0 ..); (simp only [Act.put, List.setIfInBounds_toArray, List.set_cons_zero, List.set_cons_succ]))
        | ((with_reducible show wpList _ _ _ (_ :: _) _ _); (with_reducible apply wpl_storeRH row_ofr); (· rfl); (· rfl); (· rfl); (· with_reducible exact ofr_cells ..); (· exact H); (· (repeat (first | (with_reducible exact List.mem_cons_self) | with_reducible apply List.mem_cons_of_mem))); (· (simp only [ofrA_sz, Nat.reduceAdd, Nat.reduceLeDiff, Nat.le_refl]; done)); (· with_reducible exact ofr_splice ..); (· (repeat (first | (with_reducible exact Repl.here) | with_reducible apply Repl.there))); (clear H; intro _ H); (simp only [Act.put, List.setIfInBounds_toArray, List.set_cons_zero, List.set_cons_succ])))
      refine ret_row2H row_ofr rfl rfl rfl H List.mem_cons_self rfl rfl ?_
      rw [HF.out]
      exact ⟨rfl, H.tail⟩
theorem rset4_H {p n c : Nat} {a : Option Addr} {nx : Int} {L : List Ofr} (s v : Int) (hl : L.length = n) (hn : n ≤ 10000) (H : Heap W (RBk p (.slice a n c) nx :: OfT (.slice a n c) n L :: l) w) :
    Calls Try.prog 116 #[.pointer (some ⟨p, 0, none⟩), .int .u64 s, .int .i64 v] w fun e w' => ∃ a' n' c', e = .returned (.tuple #[]) ∧ (setO L s v).length = n' ∧ Heap W (RBk p (.slice a' n' c') nx :: OfT (.slice a' n' c') n' (setO L s v) :: l) w' := by
  have HL := Lib.hid hl
  clear hl
  replace H := H.nilRow 83 7
  go_enter Try.func116, Try.ntmps116
  go_wp2_with (go_skip)
  have H0 := H
  clear H
  go_loopw [6, 7] (fun vo i wr => RSetR W l p a c nx L s v n vo i wr) (fun _ i _ => n - (intOf i).toNat)
  case atStart => exact ⟨0, 0, [], Nat.zero_le _, rfl, rfl, rfl, H0⟩
  case round =>
    obtain ⟨k, m, M, hk, rfl, hM, hm, H⟩ := hrel.out
    clear H0 hrel
    have HM := Lib.hid (And.intro hM hm)
    clear hM hm
    obtain ⟨ao, co, rfl, ho1, ho2⟩ := RowT.form0 (H.ok _ List.mem_cons_self)
    by_cases hlt : k < n
    · have hkL : k < L.length := by rw [HL.out]; exact hlt
      have hrow := ofrL_get L k hkL
      have hlen1 : k * 7 + 7 ≤ (ofrL L).length := by rw [ofrL_len]; omega
      have hgk : L[k]? = some L[k] := List.getElem?_eq_getElem hkL
      have Rw := H.rowRd (List.mem_cons_of_mem _ (List.mem_cons_of_mem _ List.mem_cons_self))
      obtain ⟨ba, oa, rfl, _⟩ := Rw.lt (by omega)
      have hmk : m ≤ k := by
        rw [← HM.out.2, HM.out.1]
        exact Nat.le_trans (setO_len _ _ _) (by rw [List.length_take]; omega)
      have hn1 : m + 1 ≤ maxLen := by unfold maxLen; omega
      have hn2 : (m + 1) * 40 ≤ 140737488355328 := by omega
      have HS := Lib.hid (setO_snoc s v hgk)
      clear hgk Rw hmk
      generalize L[k] = x at *
      by_cases hq : x.sq = s
      · have d1 : (x.sq == s) = true := by simp [hq]
        by_cases hz : 0 < v
        · have d2 : decide (v > 0) = true := decide_eq_true hz
          have d3 : decide (0 < v) = true := decide_eq_true hz
          have HS2 := Lib.hid (show setO (L.take (k + 1)) s v = M ++ [({ x with le := v } : Ofr)] by rw [HS.out, ← HM.out.1]; simp only [if_pos hq, if_pos hz])
          clear HS hq hz
          go_wp2_with (first
        | ((with_reducible show wpList _ _ _ (_ :: _) _ _); (with_reducible apply wpl_appendA slO); (· rfl); (· rfl); (· rfl); (· rfl); (· exact H.pull (.there (.there .here))); (· exact H.celRd List.mem_cons_self); (· rfl); (· exact ofrA_ones _); (· exact hn1); (· exact hn2); (clear H; intro v2 _ _ H); (simp only [Act.put, List.setIfInBounds_toArray, List.set_cons_zero, List.set_cons_succ]))
        | ((with_reducible show wpList _ _ _ (_ :: _) _ _); (with_reducible apply wpl_bsRH); (· rfl); (· rfl); (· exact bs_ofr); (· exact ofr_bs ..); (· exact H); (clear H; intro pq _ H); (simp only [Act.put, List.setIfInBounds_toArray, List.set_cons_zero, List.set_cons_succ]))
        | ((with_reducible show wpList _ _ _ (_ :: _) _ _); (with_reducible apply wpl_allocRH row_ofr); (· rfl); (· exact H); (clear H; intro px _ H); (simp only [Act.put, List.setIfInBounds_toArray, List.set_cons_zero, List.set_cons_succ]))
        | go_skip
        | ((with_reducible show wpList _ _ _ (_ :: _) _ _); (with_reducible apply wpl_loadCH); (· exact cell_ofrs); (· rfl); (· rfl); (· exact H); (· (repeat (first | (with_reducible exact List.mem_cons_self) | with_reducible apply List.mem_cons_of_mem))); (· exact bkb_g0 ..); (simp only [Act.put, List.setIfInBounds_toArray, List.set_cons_zero, List.set_cons_succ]))
        | ((with_reducible show wpList _ _ _ (_ :: _) _ _); (with_reducible apply wpl_loadRdR row_ofr); (· rfl); (· rfl); (· exact H.rowRd (List.mem_cons_of_mem _ (List.mem_cons_of_mem _ List.mem_cons_self))); (· rfl); (· exact hlen1); (· decide); (· exact hrow); (simp only [Act.put, List.setIfInBounds_toArray, List.set_cons_zero, List.set_cons_succ]))
        | ((with_reducible show wpList _ _ _ (_ :: _) _ _); (with_reducible apply wpl_storeRH row_ofr); (· rfl); (· rfl); (· rfl); (· with_reducible exact ofr_cells ..); (· exact H); (· (repeat (first | (with_reducible exact List.mem_cons_self) | with_reducible apply List.mem_cons_of_mem))); (· (simp only [ofrA_sz, Nat.reduceAdd, Nat.reduceLeDiff, Nat.le_refl]; done)); (· with_reducible exact ofr_splice ..); (· (repeat (first | (with_reducible exact Repl.here) | with_reducible apply Repl.there))); (clear H; intro _ H); (simp only [Act.put, List.setIfInBounds_toArray, List.set_cons_zero, List.set_cons_succ]))
        | ((with_reducible show wpList _ _ _ (_ :: _) _ _); (with_reducible apply wpl_loadRH row_ofr); (· rfl); (· rfl); (· exact H); (· (repeat (first | (with_reducible exact List.mem_cons_self) | with_reducible apply List.mem_cons_of_mem))); (· (simp only [ofrA_sz, Nat.reduceAdd, Nat.reduceLeDiff, Nat.le_refl]; done)); (· with_reducible exact ofrA_all ..); (simp only [Act.put, List.setIfInBounds_toArray, List.set_cons_zero, List.set_cons_succ]))
        | ((with_reducible show wpList _ _ _ (_ :: _) _ _); (with_reducible apply wpl_storeCH); (· exact cell_i64); (· rfl); (· rfl); (· exact (rfl : _ = Value.int .i64 v)); (· exact ⟨rfl, rfl⟩); (· exact H); (· (repeat (first | (with_reducible exact List.mem_cons_self) | with_reducible apply List.mem_cons_of_mem))); (· (simp only [ofrA_sz]; decide)); (· exact ofr_sle ..); (· (repeat (first | (with_reducible exact Repl.here) | with_reducible apply Repl.there))); (clear H; intro _ H); (simp only [Act.put, List.setIfInBounds_toArray, List.set_cons_zero, List.set_cons_succ]))
        | ((with_reducible show wpList _ _ _ (_ :: _) _ _); (with_reducible apply wpl_loadCH); (· first | exact cell_u64 | exact cell_party | exact cell_cur | exact cell_i64); (· rfl); (· rfl); (· exact H); (· (repeat (first | (with_reducible exact List.mem_cons_self) | with_reducible apply List.mem_cons_of_mem))); (· with_reducible first | exact ofr_g0 .. | exact ofr_g1 .. | exact ofr_g2 .. | exact ofr_g3 .. | exact ofr_g4 ..); (simp only [Act.put, List.setIfInBounds_toArray, List.set_cons_zero, List.set_cons_succ])))
          refine ⟨⟨k + 1, m + 1, _, by omega, by go_num, HS2.out.symm, by rw [List.length_append, HM.out.2]; rfl, ?_⟩, ?measure⟩
          · show Heap W (RowT 83 7 _ _ (ofrL (M ++ [_])) :: _) _
            rw [ofrL_app, ofrL_one]
            exact (H.drop (.there .here)).drop (.there .here)
          case measure => simp [intOf]; omega
        · have d2 : decide (v > 0) = false := decide_eq_false hz
          have d3 : decide (0 < v) = false := decide_eq_false hz
          have HS2 := Lib.hid (show setO (L.take (k + 1)) s v = M by rw [HS.out, ← HM.out.1]; simp only [if_pos hq, if_neg hz]; exact List.append_nil _)
          clear HS hq hz
          go_wp2_with (first
        | ((with_reducible show wpList _ _ _ (_ :: _) _ _); (with_reducible apply wpl_appendA slO); (· rfl); (· rfl); (· rfl); (· rfl); (· exact H.pull (.there (.there .here))); (· exact H.celRd List.mem_cons_self); (· rfl); (· exact ofrA_ones _); (· exact hn1); (· exact hn2); (clear H; intro v2 _ _ H); (simp only [Act.put, List.setIfInBounds_toArray, List.set_cons_zero, List.set_cons_succ]))
        | ((with_reducible show wpList _ _ _ (_ :: _) _ _); (with_reducible apply wpl_bsRH); (· rfl); (· rfl); (· exact bs_ofr); (· exact ofr_bs ..); (· exact H); (clear H; intro pq _ H); (simp only [Act.put, List.setIfInBounds_toArray, List.set_cons_zero, List.set_cons_succ]))
        | ((with_reducible show wpList _ _ _ (_ :: _) _ _); (with_reducible apply wpl_allocRH row_ofr); (· rfl); (· exact H); (clear H; intro px _ H); (simp only [Act.put, List.setIfInBounds_toArray, List.set_cons_zero, List.set_cons_succ]))
        | go_skip
        | ((with_reducible show wpList _ _ _ (_ :: _) _ _); (with_reducible apply wpl_loadCH); (· exact cell_ofrs); (· rfl); (· rfl); (· exact H); (· (repeat (first | (with_reducible exact List.mem_cons_self) | with_reducible apply List.mem_cons_of_mem))); (· exact bkb_g0 ..); (simp only [Act.put, List.setIfInBounds_toArray, List.set_cons_zero, List.set_cons_succ]))
        | ((with_reducible show wpList _ _ _ (_ :: _) _ _); (with_reducible apply wpl_loadRdR row_ofr); (· rfl); (· rfl); (· exact H.rowRd (List.mem_cons_of_mem _ (List.mem_cons_of_mem _ List.mem_cons_self))); (· rfl); (· exact hlen1); (· decide); (· exact hrow); (simp only [Act.put, List.setIfInBounds_toArray, List.set_cons_zero, List.set_cons_succ]))
        | ((with_reducible show wpList _ _ _ (_ :: _) _ _); (with_reducible apply wpl_storeRH row_ofr); (· rfl); (· rfl); (· rfl); (· with_reducible exact ofr_cells ..); (· exact H); (· (repeat (first | (with_reducible exact List.mem_cons_self) | with_reducible apply List.mem_cons_of_mem))); (· (simp only [ofrA_sz, Nat.reduceAdd, Nat.reduceLeDiff, Nat.le_refl]; done)); (· with_reducible exact ofr_splice ..); (· (repeat (first | (with_reducible exact Repl.here) | with_reducible apply Repl.there))); (clear H; intro _ H); (simp only [Act.put, List.setIfInBounds_toArray, List.set_cons_zero, List.set_cons_succ]))
        | ((with_reducible show wpList _ _ _ (_ :: _) _ _); (with_reducible apply wpl_loadRH row_ofr); (· rfl); (· rfl); (· exact H); (· (repeat (first | (with_reducible exact List.mem_cons_self) | with_reducible apply List.mem_cons_of_mem))); (· (simp only [ofrA_sz, Nat.reduceAdd, Nat.reduceLeDiff, Nat.le_refl]; done)); (· with_reducible exact ofrA_all ..); (simp only [Act.put, List.setIfInBounds_toArray, List.set_cons_zero, List.set_cons_succ]))
        | ((with_reducible show wpList _ _ _ (_ :: _) _ _); (with_reducible apply wpl_storeCH); (· exact cell_i64); (· rfl); (· rfl); (· exact (rfl : _ = Value.int .i64 v)); (· exact ⟨rfl, rfl⟩); (· exact H); (· (repeat (first | (with_reducible exact List.mem_cons_self) | with_reducible apply List.mem_cons_of_mem))); (· (simp only [ofrA_sz]; decide)); (· exact ofr_sle ..); (· (repeat (first | (with_reducible exact Repl.here) | with_reducible apply Repl.there))); (clear H; intro _ H); (simp only [Act.put, List.setIfInBounds_toArray, List.set_cons_zero, List.set_cons_succ]))
        | ((with_reducible show wpList _ _ _ (_ :: _) _ _); (with_reducible apply wpl_loadCH); (· first | exact cell_u64 | exact cell_party | exact cell_cur | exact cell_i64); (· rfl); (· rfl); (· exact H); (· (repeat (first | (with_reducible exact List.mem_cons_self) | with_reducible apply List.mem_cons_of_mem))); (· with_reducible first | exact ofr_g0 .. | exact ofr_g1 .. | exact ofr_g2 .. | exact ofr_g3 .. | exact ofr_g4 ..); (simp only [Act.put, List.setIfInBounds_toArray, List.set_cons_zero, List.set_cons_succ])))
          refine ⟨⟨k + 1, m, _, by omega, by go_num, HS2.out.symm, HM.out.2, H.tail⟩, ?measure⟩
          case measure => simp [intOf]; omega
      · have d1 : (x.sq == s) = false := by simp [hq]
        by_cases hz : 0 < x.le
        · have d2 : decide (x.le > 0) = true := decide_eq_true hz
          have d3 : decide (0 < x.le) = true := decide_eq_true hz
          have HS2 := Lib.hid (show setO (L.take (k + 1)) s v = M ++ [(x : Ofr)] by rw [HS.out, ← HM.out.1]; simp only [if_neg hq, if_pos hz])
          clear HS hq hz
          go_wp2_with (first
        | ((with_reducible show wpList _ _ _ (_ :: _) _ _); (with_reducible apply wpl_appendA slO); (· rfl); (· rfl); (· rfl); (· rfl); (· exact H.pull (.there (.there .here))); (· exact H.celRd List.mem_cons_self); (· rfl); (· exact ofrA_ones _); (· exact hn1); (· exact hn2); (clear H; intro v2 _ _ H); (simp only [Act.put, List.setIfInBounds_toArray, List.set_cons_zero, List.set_cons_succ]))
        | ((with_reducible show wpList _ _ _ (_ :: _) _ _); (with_reducible apply wpl_bsRH); (· rfl); (· rfl); (· exact bs_ofr); (· exact ofr_bs ..); (· exact H); (clear H; intro pq _ H); (simp only [Act.put, List.setIfInBounds_toArray, List.set_cons_zero, List.set_cons_succ]))
        | ((with_reducible show wpList _ _ _ (_ :: _) _ _); (with_reducible apply wpl_allocRH row_ofr); (· rfl); (· exact H); (clear H; intro px _ H); (simp only [Act.put, List.setIfInBounds_toArray, List.set_cons_zero, List.set_cons_succ]))
        | go_skip
        | ((with_reducible show wpList _ _ _ (_ :: _) _ _); (with_reducible apply wpl_loadCH); (· exact cell_ofrs); (· rfl); (· rfl); (· exact H); (· (repeat (first | (with_reducible exact List.mem_cons_self) | with_reducible apply List.mem_cons_of_mem))); (· exact bkb_g0 ..); (simp only [Act.put, List.setIfInBounds_toArray, List.set_cons_zero, List.set_cons_succ]))
        | ((with_reducible show wpList _ _ _ (_ :: _) _ _); (with_reducible apply wpl_loadRdR row_ofr); (· rfl); (· rfl); (· exact H.rowRd (List.mem_cons_of_mem _ (List.mem_cons_of_mem _ List.mem_cons_self))); (· rfl); (· exact hlen1); (· decide); (· exact hrow); (simp only [Act.put, List.setIfInBounds_toArray, List.set_cons_zero, List.set_cons_succ]))
        | ((with_reducible show wpList _ _ _ (_ :: _) _ _); (with_reducible apply wpl_storeRH row_ofr); (· rfl); (· rfl); (· rfl); (· with_reducible exact ofr_cells ..); (· exact H); (· (repeat (first | (with_reducible exact List.mem_cons_self) | with_reducible apply List.mem_cons_of_mem))); (· (simp only [ofrA_sz, Nat.reduceAdd, Nat.reduceLeDiff, Nat.le_refl]; done)); (· with_reducible exact ofr_splice ..); (· (repeat (first | (with_reducible exact Repl.here) | with_reducible apply Repl.there))); (clear H; intro _ H); (simp only [Act.put, List.setIfInBounds_toArray, List.set_cons_zero, List.set_cons_succ]))
        | ((with_reducible show wpList _ _ _ (_ :: _) _ _); (with_reducible apply wpl_loadRH row_ofr); (· rfl); (· rfl); (· exact H); (· (repeat (first | (with_reducible exact List.mem_cons_self) | with_reducible apply List.mem_cons_of_mem))); (· (simp only [ofrA_sz, Nat.reduceAdd, Nat.reduceLeDiff, Nat.le_refl]; done)); (· with_reducible exact ofrA_all ..); (simp only [Act.put, List.setIfInBounds_toArray, List.set_cons_zero, List.set_cons_succ]))
        | ((with_reducible show wpList _ _ _ (_ :: _) _ _); (with_reducible apply wpl_storeCH); (· exact cell_i64); (· rfl); (· rfl); (· exact (rfl : _ = Value.int .i64 v)); (· exact ⟨rfl, rfl⟩); (· exact H); (· (repeat (first | (with_reducible exact List.mem_cons_self) | with_reducible apply List.mem_cons_of_mem))); (· (simp only [ofrA_sz]; decide)); (· exact ofr_sle ..); (· (repeat (first | (with_reducible exact Repl.here) | with_reducible apply Repl.there))); (clear H; intro _ H); (simp only [Act.put, List.setIfInBounds_toArray, List.set_cons_zero, List.set_cons_succ]))
        | ((with_reducible show wpList _ _ _ (_ :: _) _ _); (with_reducible apply wpl_loadCH); (· first | exact cell_u64 | exact cell_party | exact cell_cur | exact cell_i64); (· rfl); (· rfl); (· exact H); (· (repeat (first | (with_reducible exact List.mem_cons_self) | with_reducible apply List.mem_cons_of_mem))); (· with_reducible first | exact ofr_g0 .. | exact ofr_g1 .. | exact ofr_g2 .. | exact ofr_g3 .. | exact ofr_g4 ..); (simp only [Act.put, List.setIfInBounds_toArray, List.set_cons_zero, List.set_cons_succ])))
          refine ⟨⟨k + 1, m + 1, _, by omega, by go_num, HS2.out.symm, by rw [List.length_append, HM.out.2]; rfl, ?_⟩, ?measure⟩
          · show Heap W (RowT 83 7 _ _ (ofrL (M ++ [_])) :: _) _
            rw [ofrL_app, ofrL_one]
            exact (H.drop (.there .here)).drop (.there .here)
          case measure => simp [intOf]; omega
        · have d2 : decide (x.le > 0) = false := decide_eq_false hz
          have d3 : decide (0 < x.le) = false := decide_eq_false hz
          have HS2 := Lib.hid (show setO (L.take (k + 1)) s v = M by rw [HS.out, ← HM.out.1]; simp only [if_neg hq, if_neg hz]; exact List.append_nil _)
          clear HS hq hz
          go_wp2_with (first
        | ((with_reducible show wpList _ _ _ (_ :: _) _ _); (with_reducible apply wpl_appendA slO); (· rfl); (· rfl); (· rfl); (· rfl); (· exact H.pull (.there (.there .here))); (· exact H.celRd List.mem_cons_self); (· rfl); (· exact ofrA_ones _); (· exact hn1); (· exact hn2); (clear H; intro v2 _ _ H); (simp only [Act.put, List.setIfInBounds_toArray, List.set_cons_zero, List.set_cons_succ]))
        | ((with_reducible show wpList _ _ _ (_ :: _) _ _); (with_reducible apply wpl_bsRH); (· rfl); (· rfl); (· exact bs_ofr); (· exact ofr_bs ..); (· exact H); (clear H; intro pq _ H); (simp only [Act.put, List.setIfInBounds_toArray, List.set_cons_zero, List.set_cons_succ]))
        | ((with_reducible show wpList _ _ _ (_ :: _) _ _); (with_reducible apply wpl_allocRH row_ofr); (· rfl); (· exact H); (clear H; intro px _ H); (simp only [Act.put, List.setIfInBounds_toArray, List.set_cons_zero, List.set_cons_succ]))
        | go_skip
        | ((with_reducible show wpList _ _ _ (_ :: _) _ _); (with_reducible apply wpl_loadCH); (· exact cell_ofrs); (· rfl); (· rfl); (· exact H); (· (repeat (first | (with_reducible exact List.mem_cons_self) | with_reducible apply List.mem_cons_of_mem))); (· exact bkb_g0 ..); (simp only [Act.put, List.setIfInBounds_toArray, List.set_cons_zero, List.set_cons_succ]))
        | ((with_reducible show wpList _ _ _ (_ :: _) _ _); (with_reducible apply wpl_loadRdR row_ofr); (· rfl); (· rfl); (· exact H.rowRd (List.mem_cons_of_mem _ (List.mem_cons_of_mem _ List.mem_cons_self))); (· rfl); (· exact hlen1); (· decide); (· exact hrow); (simp only [Act.put, List.setIfInBounds_toArray, List.set_cons_zero, List.set_cons_succ]))
        | ((with_reducible show wpList _ _ _ (_ :: _) _ _); (with_reducible apply wpl_storeRH row_ofr); (· rfl); (· rfl); (· rfl); (· with_reducible exact ofr_cells ..); (· exact H); (· (repeat (first | (with_reducible exact List.mem_cons_self) | with_reducible apply List.mem_cons_of_mem))); (· (simp only [ofrA_sz, Nat.reduceAdd, Nat.reduceLeDiff, Nat.le_refl]; done)); (· with_reducible exact ofr_splice ..); (· (repeat (first | (with_reducible exact Repl.here) | with_reducible apply Repl.there))); (clear H; intro _ H); (simp only [Act.put, List.setIfInBounds_toArray, List.set_cons_zero, List.set_cons_succ]))
        | ((with_reducible show wpList _ _ _ (_ :: _) _ _); (with_reducible apply wpl_loadRH row_ofr); (· rfl); (· rfl); (· exact H); (· (repeat (first | (with_reducible exact List.mem_cons_self) | with_reducible apply List.mem_cons_of_mem))); (· (simp only [ofrA_sz, Nat.reduceAdd, Nat.reduceLeDiff, Nat.le_refl]; done)); (· with_reducible exact ofrA_all ..); (simp only [Act.put, List.setIfInBounds_toArray, List.set_cons_zero, List.set_cons_succ]))
        | ((with_reducible show wpList _ _ _ (_ :: _) _ _); (with_reducible apply wpl_storeCH); (· exact cell_i64); (· rfl); (· rfl); (· exact (rfl : _ = Value.int .i64 v)); (· exact ⟨rfl, rfl⟩); (· exact H); (· (repeat (first | (with_reducible exact List.mem_cons_self) | with_reducible apply List.mem_cons_of_mem))); (· (simp only [ofrA_sz]; decide)); (· exact ofr_sle ..); (· (repeat (first | (with_reducible exact Repl.here) | with_reducible apply Repl.there))); (clear H; intro _ H); (simp only [Act.put, List.setIfInBounds_toArray, List.set_cons_zero, List.set_cons_succ]))
        | ((with_reducible show wpList _ _ _ (_ :: _) _ _); (with_reducible apply wpl_loadCH); (· first | exact cell_u64 | exact cell_party | exact cell_cur | exact cell_i64); (· rfl); (· rfl); (· exact H); (· (repeat (first | (with_reducible exact List.mem_cons_self) | with_reducible apply List.mem_cons_of_mem))); (· with_reducible first | exact ofr_g0 .. | exact ofr_g1 .. | exact ofr_g2 .. | exact ofr_g3 .. | exact ofr_g4 ..); (simp only [Act.put, List.setIfInBounds_toArray, List.set_cons_zero, List.set_cons_succ])))
          refine ⟨⟨k + 1, m, _, by omega, by go_num, HS2.out.symm, HM.out.2, H.tail⟩, ?measure⟩
          case measure => simp [intOf]; omega
    · obtain rfl : k = n := by omega
      have HS := Lib.hid (show M = setO L s v by rw [HM.out.1, List.take_of_length_le (by rw [HL.out]; exact Nat.le_refl _)])
      go_wp2_with (first
        | go_skip
        | ((with_reducible show wpList _ _ _ (_ :: _) _ _); (with_reducible apply wpl_loadCH); (· exact cell_ofrs); (· rfl); (· rfl); (· exact H); (· (repeat (first | (with_reducible exact List.mem_cons_self) | with_reducible apply List.mem_cons_of_mem))); (· exact bkb_g0 ..); (simp only [Act.put, List.setIfInBounds_toArray, List.set_cons_zero, List.set_cons_succ]))
        | (first | ((with_reducible show wpList _ _ _ (_ :: _) _ _); (with_reducible apply wpl_storeIH); (· exact cell_ofrs); (· rfl); (· rfl); (· rfl); (· exact H); (· (repeat (first | (with_reducible exact List.mem_cons_self) | with_reducible apply List.mem_cons_of_mem))); (· (simp only [bkb_sz, Nat.reduceLT]; done)); (· (with_reducible first | exact bkb_s0 .. | exact bkb_s1 ..)); (· (repeat (first | (with_reducible exact Repl.here) | with_reducible apply Repl.there))); (clear H; intro _ H); (simp only [Act.put, List.setIfInBounds_toArray, List.set_cons_zero, List.set_cons_succ])) | ((with_reducible show wpList _ _ _ (_ :: _) _ _); (with_reducible apply wpl_storeBH); (· exact cell_ofrs); (· rfl); (· rfl); (· rfl); (· exact H); (· (repeat (first | (with_reducible exact List.mem_cons_self) | with_reducible apply List.mem_cons_of_mem))); (· (simp only [bkb_sz, Nat.reduceLT]; done)); (· (with_reducible first | exact bkb_s0 .. | exact bkb_s1 ..)); (· (repeat (first | (with_reducible exact Repl.here) | with_reducible apply Repl.there))); (clear H; intro _ H); (simp only [Act.put, List.setIfInBounds_toArray, List.set_cons_zero, List.set_cons_succ])) | ((with_reducible show wpList _ _ _ (_ :: _) _ _); (with_reducible apply wpl_storeSH); (· exact cell_ofrs); (· rfl); (· rfl); (· rfl); (· exact H); (· (repeat (first | (with_reducible exact List.mem_cons_self) | with_reducible apply List.mem_cons_of_mem))); (· (simp only [bkb_sz, Nat.reduceLT]; done)); (· (with_reducible first | exact bkb_s0 .. | exact bkb_s1 ..)); (· (repeat (first | (with_reducible exact Repl.here) | with_reducible apply Repl.there))); (clear H; intro _ H); (simp only [Act.put, List.setIfInBounds_toArray, List.set_cons_zero, List.set_cons_succ])) | ((with_reducible show wpList _ _ _ (_ :: _) _ _); (with_reducible apply wpl_storePH); (· exact cell_ofrs); (· rfl); (· rfl); (· rfl); (· exact H); (· (repeat (first | (with_reducible exact List.mem_cons_self) | with_reducible apply List.mem_cons_of_mem))); (· (simp only [bkb_sz, Nat.reduceLT]; done)); (· (with_reducible first | exact bkb_s0 .. | exact bkb_s1 ..)); (· (repeat (first | (with_reducible exact Repl.here) | with_reducible apply Repl.there))); (clear H; intro _ H); (simp only [Act.put, List.setIfInBounds_toArray, List.set_cons_zero, List.set_cons_succ]))))
      go_end0
      rw [← HS.out]
      exact ⟨ao, m, co, rfl, HM.out.2, H.drop (.there (.there .here)) |>.perm (.swap _ _ _)⟩
/-- The document's book. -/
def RBkH (W : World) (l : List Thing) (p : Nat) (B : Bok) (w : World) : Prop := ∃ (a : Option Addr) (n c : Nat), B.L.length = n ∧ Heap W (RBk p (.slice a n c) B.nx :: OfT (.slice a n c) n B.L :: l) w
theorem rcancel4_H {p : Nat} {B : Bok} (ow s : Int) (G : B.Good) (H : RBkH W l p B w) :
    Calls Try.prog 72 #[.pointer (some ⟨p, 0, none⟩), .int .u8 ow, .int .u64 s] w fun e w' =>
      e = .returned (.tuple #[.int .i64 (cancelN B ow s), .int .i64 (cancelE B ow s)]) ∧ RBkH W l p (cancelS B ow s) w' := by
  obtain ⟨a, n, c, hl, H⟩ := H
  have hfew := G.few
  have F := rfind4_H (W := W) (l := RBk p (.slice a n c) B.nx :: OfT (.slice a n c) n B.L :: l) (p := p) s List.mem_cons_self (List.mem_cons_of_mem _ List.mem_cons_self) hl (by omega)
  have HL := Lib.hid hl
  cases hf : findO B.L s with
  | none =>
    have e1 : cancelE B ow s = 7 := by unfold cancelE; rw [hf]
    have e2 : cancelN B ow s = 0 := by unfold cancelN; rw [hf]
    have e3 : cancelS B ow s = B := by unfold cancelS; rw [e1]; rfl
    rw [e1, e2, e3]
    rw [findV_none hf] at F
    clear e1 e2 e3 hf hl
    go_enter Try.func72, Try.ntmps72
    go_wp2_with (first | ((with_reducible show wpList _ _ _ (_ :: _) _ _); (with_reducible apply wpl_allocRH row_ofr); (· rfl); (· exact H); (clear H; intro px _ H); (simp only [Act.put, List.setIfInBounds_toArray, List.set_cons_zero, List.set_cons_succ])) | go_skip | ((with_reducible refine AnsH.call (by assumption) H ?_); clear H; intro _ H) | ((with_reducible show wpList _ _ _ (_ :: _) _ _); (with_reducible apply wpl_storeRH row_ofr); (· rfl); (· rfl); (· rfl); (· with_reducible exact ofr_cells ..); (· exact H); (· (repeat (first | (with_reducible exact List.mem_cons_self) | with_reducible apply List.mem_cons_of_mem))); (· (simp only [ofrA_sz, Nat.reduceAdd, Nat.reduceLeDiff, Nat.le_refl]; done)); (· with_reducible exact ofr_splice ..); (· (repeat (first | (with_reducible exact Repl.here) | with_reducible apply Repl.there))); (clear H; intro _ H); (simp only [Act.put, List.setIfInBounds_toArray, List.set_cons_zero, List.set_cons_succ])))
    go_ret2
    exact ⟨rfl, a, n, c, HL.out, H.tail⟩
  | some o =>
    rw [findV_some hf] at F
    by_cases ho : o.ow = ow
    · have d1 : (o.ow != ow) = false := by simp [ho]
      have d1b : (o.ow == ow) = true := by simp [ho]
      have e1 : cancelE B ow s = 0 := by unfold cancelE; rw [hf]; simp [ho]
      have e2 : cancelN B ow s = o.le := by unfold cancelN; rw [hf]; simp [ho]
      have e3 : cancelS B ow s = ⟨setO B.L s 0, B.nx⟩ := by unfold cancelS; rw [if_pos e1]
      rw [e1, e2, e3]
      clear e1 e2 e3 hf ho hl
      go_enter Try.func72, Try.ntmps72
      go_wp2_with (first | ((with_reducible show wpList _ _ _ (_ :: _) _ _); (with_reducible apply wpl_allocRH row_ofr); (· rfl); (· exact H); (clear H; intro px _ H); (simp only [Act.put, List.setIfInBounds_toArray, List.set_cons_zero, List.set_cons_succ])) | go_skip | ((with_reducible refine AnsH.call (by assumption) H ?_); clear H; intro _ H) | ((with_reducible show wpList _ _ _ (_ :: _) _ _); (with_reducible apply wpl_storeRH row_ofr); (· rfl); (· rfl); (· rfl); (· with_reducible exact ofr_cells ..); (· exact H); (· (repeat (first | (with_reducible exact List.mem_cons_self) | with_reducible apply List.mem_cons_of_mem))); (· (simp only [ofrA_sz, Nat.reduceAdd, Nat.reduceLeDiff, Nat.le_refl]; done)); (· with_reducible exact ofr_splice ..); (· (repeat (first | (with_reducible exact Repl.here) | with_reducible apply Repl.there))); (clear H; intro _ H); (simp only [Act.put, List.setIfInBounds_toArray, List.set_cons_zero, List.set_cons_succ])) | ((with_reducible show wpList _ _ _ (_ :: _) _ _); (with_reducible apply wpl_loadCH); (· first | exact cell_u64 | exact cell_party | exact cell_cur | exact cell_i64); (· rfl); (· rfl); (· exact H); (· (repeat (first | (with_reducible exact List.mem_cons_self) | with_reducible apply List.mem_cons_of_mem))); (· with_reducible first | exact ofr_g0 .. | exact ofr_g1 .. | exact ofr_g2 .. | exact ofr_g3 .. | exact ofr_g4 ..); (simp only [Act.put, List.setIfInBounds_toArray, List.set_cons_zero, List.set_cons_succ])))
      refine (rset4_H (p := p) (L := B.L) (l := Cel px (ofrA o) 83 :: l) s 0 HL.out (by have := HL.out; omega) (H.top2 (.there .here) (.there .here))).mono ?_
      clear H
      rintro e w2 ⟨a2, n2, c2, rfl, hl2, H⟩
      have HL2 := Lib.hid hl2
      clear hl2
      go_wp2_with (first | go_skip | ((with_reducible show wpList _ _ _ (_ :: _) _ _); (with_reducible apply wpl_loadCH); (· first | exact cell_u64 | exact cell_party | exact cell_cur | exact cell_i64); (· rfl); (· rfl); (· exact H); (· (repeat (first | (with_reducible exact List.mem_cons_self) | with_reducible apply List.mem_cons_of_mem))); (· with_reducible first | exact ofr_g0 .. | exact ofr_g1 .. | exact ofr_g2 .. | exact ofr_g3 .. | exact ofr_g4 ..); (simp only [Act.put, List.setIfInBounds_toArray, List.set_cons_zero, List.set_cons_succ])))
      go_ret2
      exact ⟨rfl, a2, n2, c2, HL2.out, H.drop (.there (.there .here))⟩
    · have d1 : (o.ow != ow) = true := by simp [ho]
      have d1b : (o.ow == ow) = false := by simp [ho]
      have e1 : cancelE B ow s = 15 := by unfold cancelE; rw [hf]; simp [ho]
      have e2 : cancelN B ow s = 0 := by unfold cancelN; rw [hf]; simp [ho]
      have e3 : cancelS B ow s = B := by unfold cancelS; rw [e1]; rfl
      rw [e1, e2, e3]
      clear e1 e2 e3 hf ho hl
      go_enter Try.func72, Try.ntmps72
      go_wp2_with (first | ((with_reducible show wpList _ _ _ (_ :: _) _ _); (with_reducible apply wpl_allocRH row_ofr); (· rfl); (· exact H); (clear H; intro px _ H); (simp only [Act.put, List.setIfInBounds_toArray, List.set_cons_zero, List.set_cons_succ])) | go_skip | ((with_reducible refine AnsH.call (by assumption) H ?_); clear H; intro _ H) | ((with_reducible show wpList _ _ _ (_ :: _) _ _); (with_reducible apply wpl_storeRH row_ofr); (· rfl); (· rfl); (· rfl); (· with_reducible exact ofr_cells ..); (· exact H); (· (repeat (first | (with_reducible exact List.mem_cons_self) | with_reducible apply List.mem_cons_of_mem))); (· (simp only [ofrA_sz, Nat.reduceAdd, Nat.reduceLeDiff, Nat.le_refl]; done)); (· with_reducible exact ofr_splice ..); (· (repeat (first | (with_reducible exact Repl.here) | with_reducible apply Repl.there))); (clear H; intro _ H); (simp only [Act.put, List.setIfInBounds_toArray, List.set_cons_zero, List.set_cons_succ])) | ((with_reducible show wpList _ _ _ (_ :: _) _ _); (with_reducible apply wpl_loadCH); (· first | exact cell_u64 | exact cell_party | exact cell_cur | exact cell_i64); (· rfl); (· rfl); (· exact H); (· (repeat (first | (with_reducible exact List.mem_cons_self) | with_reducible apply List.mem_cons_of_mem))); (· with_reducible first | exact ofr_g0 .. | exact ofr_g1 .. | exact ofr_g2 .. | exact ofr_g3 .. | exact ofr_g4 ..); (simp only [Act.put, List.setIfInBounds_toArray, List.set_cons_zero, List.set_cons_succ])))
      go_ret2
      exact ⟨rfl, a, n, c, HL.out, H.tail⟩
theorem rtake4_H {p : Nat} {B : Bok} (s x : Int) (hx : -9223372036854775808 ≤ x ∧ x ≤ 9223372036854775807) (G : B.Good) (H : RBkH W l p B w) :
    Calls Try.prog 73 #[.pointer (some ⟨p, 0, none⟩), .int .u64 s, .int .i64 x] w fun e w' =>
      e = .returned (.int .i64 (takeE B s x)) ∧ RBkH W l p (takeS B s x) w' := by
  obtain ⟨a, n, c, hl, H⟩ := H
  have hfew := G.few
  have F := rfind4_H (W := W) (l := RBk p (.slice a n c) B.nx :: OfT (.slice a n c) n B.L :: l) (p := p) s List.mem_cons_self (List.mem_cons_of_mem _ List.mem_cons_self) hl (by omega)
  have HL := Lib.hid hl
  cases hf : findO B.L s with
  | none =>
    have e1 : takeE B s x = 7 := by unfold takeE; rw [hf]
    have e3 : takeS B s x = B := by unfold takeS; rw [hf]
    rw [e1, e3]
    rw [findV_none hf] at F
    clear e1 e3 hf hl
    go_enter Try.func73, Try.ntmps73
    go_wp2_with (first | ((with_reducible show wpList _ _ _ (_ :: _) _ _); (with_reducible apply wpl_allocRH row_ofr); (· rfl); (· exact H); (clear H; intro px _ H); (simp only [Act.put, List.setIfInBounds_toArray, List.set_cons_zero, List.set_cons_succ])) | go_skip | ((with_reducible refine AnsH.call (by assumption) H ?_); clear H; intro _ H) | ((with_reducible show wpList _ _ _ (_ :: _) _ _); (with_reducible apply wpl_storeRH row_ofr); (· rfl); (· rfl); (· rfl); (· with_reducible exact ofr_cells ..); (· exact H); (· (repeat (first | (with_reducible exact List.mem_cons_self) | with_reducible apply List.mem_cons_of_mem))); (· (simp only [ofrA_sz, Nat.reduceAdd, Nat.reduceLeDiff, Nat.le_refl]; done)); (· with_reducible exact ofr_splice ..); (· (repeat (first | (with_reducible exact Repl.here) | with_reducible apply Repl.there))); (clear H; intro _ H); (simp only [Act.put, List.setIfInBounds_toArray, List.set_cons_zero, List.set_cons_succ])))
    go_ret
    exact ⟨rfl, a, n, c, HL.out, H.tail⟩
  | some o =>
    rw [findV_some hf] at F
    by_cases h1 : x < 1
    · have d1 : decide (x < 1) = true := decide_eq_true h1
      have e1 : takeE B s x = 1 := by unfold takeE; rw [hf]; exact if_pos (.inl h1)
      have e3 : takeS B s x = B := by unfold takeS; rw [hf]; exact if_pos (.inl h1)
      rw [e1, e3]
      clear e1 e3 hf hl h1
      go_enter Try.func73, Try.ntmps73
      go_wp2_with (first | ((with_reducible show wpList _ _ _ (_ :: _) _ _); (with_reducible apply wpl_allocRH row_ofr); (· rfl); (· exact H); (clear H; intro px _ H); (simp only [Act.put, List.setIfInBounds_toArray, List.set_cons_zero, List.set_cons_succ])) | go_skip | ((with_reducible refine AnsH.call (by assumption) H ?_); clear H; intro _ H) | ((with_reducible show wpList _ _ _ (_ :: _) _ _); (with_reducible apply wpl_storeRH row_ofr); (· rfl); (· rfl); (· rfl); (· with_reducible exact ofr_cells ..); (· exact H); (· (repeat (first | (with_reducible exact List.mem_cons_self) | with_reducible apply List.mem_cons_of_mem))); (· (simp only [ofrA_sz, Nat.reduceAdd, Nat.reduceLeDiff, Nat.le_refl]; done)); (· with_reducible exact ofr_splice ..); (· (repeat (first | (with_reducible exact Repl.here) | with_reducible apply Repl.there))); (clear H; intro _ H); (simp only [Act.put, List.setIfInBounds_toArray, List.set_cons_zero, List.set_cons_succ])) | ((with_reducible show wpList _ _ _ (_ :: _) _ _); (with_reducible apply wpl_loadCH); (· first | exact cell_u64 | exact cell_party | exact cell_cur | exact cell_i64); (· rfl); (· rfl); (· exact H); (· (repeat (first | (with_reducible exact List.mem_cons_self) | with_reducible apply List.mem_cons_of_mem))); (· with_reducible first | exact ofr_g0 .. | exact ofr_g1 .. | exact ofr_g2 .. | exact ofr_g3 .. | exact ofr_g4 ..); (simp only [Act.put, List.setIfInBounds_toArray, List.set_cons_zero, List.set_cons_succ])))
      go_ret
      exact ⟨rfl, a, n, c, HL.out, H.tail⟩
    · have d1 : decide (x < 1) = false := decide_eq_false h1
      by_cases h2 : o.le < x
      · have d2 : decide (x > o.le) = true := decide_eq_true h2
        have d3 : decide (o.le < x) = true := decide_eq_true h2
        have e1 : takeE B s x = 1 := by unfold takeE; rw [hf]; exact if_pos (.inr h2)
        have e3 : takeS B s x = B := by unfold takeS; rw [hf]; exact if_pos (.inr h2)
        rw [e1, e3]
        clear e1 e3 hf hl h1 h2
        go_enter Try.func73, Try.ntmps73
        go_wp2_with (first | ((with_reducible show wpList _ _ _ (_ :: _) _ _); (with_reducible apply wpl_allocRH row_ofr); (· rfl); (· exact H); (clear H; intro px _ H); (simp only [Act.put, List.setIfInBounds_toArray, List.set_cons_zero, List.set_cons_succ])) | go_skip | ((with_reducible refine AnsH.call (by assumption) H ?_); clear H; intro _ H) | ((with_reducible show wpList _ _ _ (_ :: _) _ _); (with_reducible apply wpl_storeRH row_ofr); (· rfl); (· rfl); (· rfl); (· with_reducible exact ofr_cells ..); (· exact H); (· (repeat (first | (with_reducible exact List.mem_cons_self) | with_reducible apply List.mem_cons_of_mem))); (· (simp only [ofrA_sz, Nat.reduceAdd, Nat.reduceLeDiff, Nat.le_refl]; done)); (· with_reducible exact ofr_splice ..); (· (repeat (first | (with_reducible exact Repl.here) | with_reducible apply Repl.there))); (clear H; intro _ H); (simp only [Act.put, List.setIfInBounds_toArray, List.set_cons_zero, List.set_cons_succ])) | ((with_reducible show wpList _ _ _ (_ :: _) _ _); (with_reducible apply wpl_loadCH); (· first | exact cell_u64 | exact cell_party | exact cell_cur | exact cell_i64); (· rfl); (· rfl); (· exact H); (· (repeat (first | (with_reducible exact List.mem_cons_self) | with_reducible apply List.mem_cons_of_mem))); (· with_reducible first | exact ofr_g0 .. | exact ofr_g1 .. | exact ofr_g2 .. | exact ofr_g3 .. | exact ofr_g4 ..); (simp only [Act.put, List.setIfInBounds_toArray, List.set_cons_zero, List.set_cons_succ])))
        go_ret
        exact ⟨rfl, a, n, c, HL.out, H.tail⟩
      · have d2 : decide (x > o.le) = false := decide_eq_false h2
        have d3 : decide (o.le < x) = false := decide_eq_false h2
        have e1 : takeE B s x = 0 := by unfold takeE; rw [hf]; exact if_neg (by omega)
        have e3 : takeS B s x = ⟨setO B.L s (o.le - x), B.nx⟩ := by unfold takeS; rw [hf]; exact if_neg (by omega)
        have hom := (mayO_iff.1 (G.ok o (findO_some hf).1).1).2.2.2.2.1
        have hwr : wrap64 (o.le - x) = o.le - x := IntWalk.wrap64_in _ ⟨by omega, by omega⟩
        rw [e1, e3]
        clear e1 e3 hf hl h1 h2 hom
        go_enter Try.func73, Try.ntmps73
        go_wp2_with (first | ((with_reducible show wpList _ _ _ (_ :: _) _ _); (with_reducible apply wpl_allocRH row_ofr); (· rfl); (· exact H); (clear H; intro px _ H); (simp only [Act.put, List.setIfInBounds_toArray, List.set_cons_zero, List.set_cons_succ])) | go_skip | ((with_reducible refine AnsH.call (by assumption) H ?_); clear H; intro _ H) | ((with_reducible show wpList _ _ _ (_ :: _) _ _); (with_reducible apply wpl_storeRH row_ofr); (· rfl); (· rfl); (· rfl); (· with_reducible exact ofr_cells ..); (· exact H); (· (repeat (first | (with_reducible exact List.mem_cons_self) | with_reducible apply List.mem_cons_of_mem))); (· (simp only [ofrA_sz, Nat.reduceAdd, Nat.reduceLeDiff, Nat.le_refl]; done)); (· with_reducible exact ofr_splice ..); (· (repeat (first | (with_reducible exact Repl.here) | with_reducible apply Repl.there))); (clear H; intro _ H); (simp only [Act.put, List.setIfInBounds_toArray, List.set_cons_zero, List.set_cons_succ])) | ((with_reducible show wpList _ _ _ (_ :: _) _ _); (with_reducible apply wpl_loadCH); (· first | exact cell_u64 | exact cell_party | exact cell_cur | exact cell_i64); (· rfl); (· rfl); (· exact H); (· (repeat (first | (with_reducible exact List.mem_cons_self) | with_reducible apply List.mem_cons_of_mem))); (· with_reducible first | exact ofr_g0 .. | exact ofr_g1 .. | exact ofr_g2 .. | exact ofr_g3 .. | exact ofr_g4 ..); (simp only [Act.put, List.setIfInBounds_toArray, List.set_cons_zero, List.set_cons_succ])))
        rw [hwr]
        refine (rset4_H (p := p) (L := B.L) (l := Cel px (ofrA o) 83 :: l) s (o.le - x) HL.out (by have := HL.out; omega) (H.top2 (.there .here) (.there .here))).mono ?_
        clear H hwr
        rintro e w2 ⟨a2, n2, c2, rfl, hl2, H⟩
        have HL2 := Lib.hid hl2
        clear hl2
        go_wp2_with (first | go_skip | ((with_reducible show wpList _ _ _ (_ :: _) _ _); (with_reducible apply wpl_loadCH); (· first | exact cell_u64 | exact cell_party | exact cell_cur | exact cell_i64); (· rfl); (· rfl); (· exact H); (· (repeat (first | (with_reducible exact List.mem_cons_self) | with_reducible apply List.mem_cons_of_mem))); (· with_reducible first | exact ofr_g0 .. | exact ofr_g1 .. | exact ofr_g2 .. | exact ofr_g3 .. | exact ofr_g4 ..); (simp only [Act.put, List.setIfInBounds_toArray, List.set_cons_zero, List.set_cons_succ])))
        go_ret
        exact ⟨rfl, a2, n2, c2, HL2.out, H.drop (.there (.there .here))⟩
theorem rplace4_H {p : Nat} {B : Bok} (ow se bu le nu de : Int) (hk : OfrOk ⟨B.nx, ow, se, bu, le, nu, de⟩) (G : B.Good) (H : RBkH W l p B w) :
    Calls Try.prog 71 #[.pointer (some ⟨p, 0, none⟩), .int .u8 ow, .int .u8 se, .int .u8 bu, .int .i64 le, .agg (ratA nu de)] w fun e w' =>
      e = .returned (.tuple #[.int .u64 (placeN B ow se bu le nu de), .int .i64 (placeE B ow se bu le nu de)]) ∧ RBkH W l p (placeS B ow se bu le nu de) w' := by
  obtain ⟨a, n, c, hl, H⟩ := H
  have hfew := G.few
  have hnx1 := G.nx.1
  have hnx2 := G.nx.2
  have M := fun l' => rmay4_H (W := W) (l := l') ⟨B.nx, ow, se, bu, le, nu, de⟩ hk
  have HL := Lib.hid hl
  cases hb : mayO ⟨B.nx, ow, se, bu, le, nu, de⟩ with
  | false =>
    rw [hb] at M
    have e1 := place_bad hb
    have e2 := placeN_no (by rw [e1]; decide : placeE B ow se bu le nu de ≠ 0)
    have e3 := placeS_no (by rw [e1]; decide : placeE B ow se bu le nu de ≠ 0)
    rw [e1, e2, e3]
    clear e1 e2 e3 hb hfew hl
    go_enter Try.func71, Try.ntmps71
    go_wp2_with (first | ((with_reducible show wpList _ _ _ (_ :: _) _ _); (with_reducible apply wpl_boxRH); (· rfl); (· rfl); (· exact H); (clear H; intro px _ H); (simp only [Act.put, List.setIfInBounds_toArray, List.set_cons_zero, List.set_cons_succ])) | go_skip)
    refine wp_region_W [10, 11] (fun l0 => ∃ pre, l0 = pre ++ _) H ⟨[], rfl⟩ (by kernel_rfl) (by kernel_rfl) ?_
    iterate 10 (apply wpW_step; (· rfl); (· rfl); (· exact Nat.le_of_ble_eq_true rfl); (· rintro l0 ⟨pre, rfl⟩ w0 H0; (first | go_big_quiet_skip | ((with_reducible apply wpQ_loadCH); (· exact cell_u64); (· rfl); (· rfl); (· ((refine List.mem_append_right _ ?_); (repeat (first | (with_reducible exact List.mem_cons_self) | with_reducible apply List.mem_cons_of_mem)))); (· exact bkb_g1 ..); (simp only [Act.put, List.setIfInBounds_toArray, List.set_cons_zero, List.set_cons_succ])) | ((with_reducible apply wpQ_loadRH row_rat); (· rfl); (· rfl); (· ((refine List.mem_append_right _ ?_); (repeat (first | (with_reducible exact List.mem_cons_self) | with_reducible apply List.mem_cons_of_mem)))); (· (simp only [ratA_sz, Nat.reduceAdd, Nat.reduceLeDiff, Nat.le_refl]; done)); (· with_reducible exact ratA_all ..); (simp only [Act.put, List.setIfInBounds_toArray, List.set_cons_zero, List.set_cons_succ])) | ((with_reducible apply wpQ_buildO); (· rfl); (· rfl); (· rfl); (· rfl); (· rfl); (· rfl); (· rfl); (simp only [Act.put, List.setIfInBounds_toArray, List.set_cons_zero, List.set_cons_succ])) | go_big_quiet_step (fail)); (refine wpQuiet_nil ?_); (simp only [Array.getD_eq_getD_getElem?, List.getElem?_toArray, List.getElem?_cons_succ, List.getElem?_cons_zero, Option.getD_some]; rfl)); (simp only [Act.put, List.setIfInBounds_toArray, List.set_cons_zero, List.set_cons_succ]))
    ((with_reducible apply wpW_allocR row_ofr); (· rfl); (· rfl); (· intro p; exact ⟨[_], rfl⟩); (intro po); (simp only [Act.put, List.setIfInBounds_toArray, List.set_cons_zero, List.set_cons_succ]))
    ((with_reducible apply wpW_storeR row_ofr); (· rfl); (· rfl); (· rfl); (· rfl); (· with_reducible exact ofr_cells ..); (· (repeat (first | (with_reducible exact List.mem_cons_self) | with_reducible apply List.mem_cons_of_mem))); (· (simp only [ofrA_sz, Nat.reduceAdd, Nat.reduceLeDiff, Nat.le_refl]; done)); (· with_reducible exact ofr_splice ..); (· (repeat (first | (with_reducible exact Repl.here) | with_reducible apply Repl.there))); (· exact ⟨[_], rfl⟩); (simp only [Act.put, List.setIfInBounds_toArray, List.set_cons_zero, List.set_cons_succ]))
    (refine wpW_nil ?_; clear H; intro _ H)
    go_wp2_with (first
      | go_skip
      | ((with_reducible show wpList _ _ _ (_ :: _) _ _); (with_reducible apply wpl_loadRH row_ofr); (· rfl); (· rfl); (· exact H); (· (repeat (first | (with_reducible exact List.mem_cons_self) | with_reducible apply List.mem_cons_of_mem))); (· (simp only [ofrA_sz, Nat.reduceAdd, Nat.reduceLeDiff, Nat.le_refl]; done)); (· with_reducible exact ofrA_all ..); (simp only [Act.put, List.setIfInBounds_toArray, List.set_cons_zero, List.set_cons_succ]))
      | ((with_reducible refine AnsH.call (M _) H ?_); clear H; intro _ H)
      | ((with_reducible show wpList _ _ _ (_ :: _) _ _); (with_reducible apply wpl_loadCH); (· first | exact cell_ofrs | exact cell_u64); (· rfl); (· rfl); (· exact H); (· (repeat (first | (with_reducible exact List.mem_cons_self) | with_reducible apply List.mem_cons_of_mem))); (· with_reducible first | exact bkb_g0 .. | exact bkb_g1 ..); (simp only [Act.put, List.setIfInBounds_toArray, List.set_cons_zero, List.set_cons_succ])))
    go_ret2
    exact ⟨rfl, a, n, c, HL.out, H.tail.tail⟩
  | true =>
    rw [hb] at M
    by_cases hf : 32 ≤ B.L.length ∨ B.nx = 18446744073709551615
    · have e1 := place_full hb hf
      have e2 := placeN_no (by rw [e1]; decide : placeE B ow se bu le nu de ≠ 0)
      have e3 := placeS_no (by rw [e1]; decide : placeE B ow se bu le nu de ≠ 0)
      rw [e1, e2, e3]
      clear e1 e2 e3 hb
      by_cases h1 : n = 32
      · have d1 : ((n : Int) == 32) = true := by simp; omega
        have d2 : (n == 32) = true := by simp; omega
        clear hf hfew hl
        go_enter Try.func71, Try.ntmps71
        go_wp2_with (first | ((with_reducible show wpList _ _ _ (_ :: _) _ _); (with_reducible apply wpl_boxRH); (· rfl); (· rfl); (· exact H); (clear H; intro px _ H); (simp only [Act.put, List.setIfInBounds_toArray, List.set_cons_zero, List.set_cons_succ])) | go_skip)
        refine wp_region_W [10, 11] (fun l0 => ∃ pre, l0 = pre ++ _) H ⟨[], rfl⟩ (by kernel_rfl) (by kernel_rfl) ?_
        iterate 10 (apply wpW_step; (· rfl); (· rfl); (· exact Nat.le_of_ble_eq_true rfl); (· rintro l0 ⟨pre, rfl⟩ w0 H0; (first | go_big_quiet_skip | ((with_reducible apply wpQ_loadCH); (· exact cell_u64); (· rfl); (· rfl); (· ((refine List.mem_append_right _ ?_); (repeat (first | (with_reducible exact List.mem_cons_self) | with_reducible apply List.mem_cons_of_mem)))); (· exact bkb_g1 ..); (simp only [Act.put, List.setIfInBounds_toArray, List.set_cons_zero, List.set_cons_succ])) | ((with_reducible apply wpQ_loadRH row_rat); (· rfl); (· rfl); (· ((refine List.mem_append_right _ ?_); (repeat (first | (with_reducible exact List.mem_cons_self) | with_reducible apply List.mem_cons_of_mem)))); (· (simp only [ratA_sz, Nat.reduceAdd, Nat.reduceLeDiff, Nat.le_refl]; done)); (· with_reducible exact ratA_all ..); (simp only [Act.put, List.setIfInBounds_toArray, List.set_cons_zero, List.set_cons_succ])) | ((with_reducible apply wpQ_buildO); (· rfl); (· rfl); (· rfl); (· rfl); (· rfl); (· rfl); (· rfl); (simp only [Act.put, List.setIfInBounds_toArray, List.set_cons_zero, List.set_cons_succ])) | go_big_quiet_step (fail)); (refine wpQuiet_nil ?_); (simp only [Array.getD_eq_getD_getElem?, List.getElem?_toArray, List.getElem?_cons_succ, List.getElem?_cons_zero, Option.getD_some]; rfl)); (simp only [Act.put, List.setIfInBounds_toArray, List.set_cons_zero, List.set_cons_succ]))
        ((with_reducible apply wpW_allocR row_ofr); (· rfl); (· rfl); (· intro p; exact ⟨[_], rfl⟩); (intro po); (simp only [Act.put, List.setIfInBounds_toArray, List.set_cons_zero, List.set_cons_succ]))
        ((with_reducible apply wpW_storeR row_ofr); (· rfl); (· rfl); (· rfl); (· rfl); (· with_reducible exact ofr_cells ..); (· (repeat (first | (with_reducible exact List.mem_cons_self) | with_reducible apply List.mem_cons_of_mem))); (· (simp only [ofrA_sz, Nat.reduceAdd, Nat.reduceLeDiff, Nat.le_refl]; done)); (· with_reducible exact ofr_splice ..); (· (repeat (first | (with_reducible exact Repl.here) | with_reducible apply Repl.there))); (· exact ⟨[_], rfl⟩); (simp only [Act.put, List.setIfInBounds_toArray, List.set_cons_zero, List.set_cons_succ]))
        (refine wpW_nil ?_; clear H; intro _ H)
        go_wp2_with (first
          | go_skip
          | ((with_reducible show wpList _ _ _ (_ :: _) _ _); (with_reducible apply wpl_loadRH row_ofr); (· rfl); (· rfl); (· exact H); (· (repeat (first | (with_reducible exact List.mem_cons_self) | with_reducible apply List.mem_cons_of_mem))); (· (simp only [ofrA_sz, Nat.reduceAdd, Nat.reduceLeDiff, Nat.le_refl]; done)); (· with_reducible exact ofrA_all ..); (simp only [Act.put, List.setIfInBounds_toArray, List.set_cons_zero, List.set_cons_succ]))
          | ((with_reducible refine AnsH.call (M _) H ?_); clear H; intro _ H)
          | ((with_reducible show wpList _ _ _ (_ :: _) _ _); (with_reducible apply wpl_loadCH); (· first | exact cell_ofrs | exact cell_u64); (· rfl); (· rfl); (· exact H); (· (repeat (first | (with_reducible exact List.mem_cons_self) | with_reducible apply List.mem_cons_of_mem))); (· with_reducible first | exact bkb_g0 .. | exact bkb_g1 ..); (simp only [Act.put, List.setIfInBounds_toArray, List.set_cons_zero, List.set_cons_succ])))
        go_ret2
        exact ⟨rfl, a, n, c, HL.out, H.tail.tail⟩
      · have d1 : ((n : Int) == 32) = false := by simp; omega
        have d2 : (n == 32) = false := by simp; omega
        have d3 : (B.nx == 18446744073709551615) = true := by simp; omega
        clear hf h1 hfew hl
        go_enter Try.func71, Try.ntmps71
        go_wp2_with (first | ((with_reducible show wpList _ _ _ (_ :: _) _ _); (with_reducible apply wpl_boxRH); (· rfl); (· rfl); (· exact H); (clear H; intro px _ H); (simp only [Act.put, List.setIfInBounds_toArray, List.set_cons_zero, List.set_cons_succ])) | go_skip)
        refine wp_region_W [10, 11] (fun l0 => ∃ pre, l0 = pre ++ _) H ⟨[], rfl⟩ (by kernel_rfl) (by kernel_rfl) ?_
        iterate 10 (apply wpW_step; (· rfl); (· rfl); (· exact Nat.le_of_ble_eq_true rfl); (· rintro l0 ⟨pre, rfl⟩ w0 H0; (first | go_big_quiet_skip | ((with_reducible apply wpQ_loadCH); (· exact cell_u64); (· rfl); (· rfl); (· ((refine List.mem_append_right _ ?_); (repeat (first | (with_reducible exact List.mem_cons_self) | with_reducible apply List.mem_cons_of_mem)))); (· exact bkb_g1 ..); (simp only [Act.put, List.setIfInBounds_toArray, List.set_cons_zero, List.set_cons_succ])) | ((with_reducible apply wpQ_loadRH row_rat); (· rfl); (· rfl); (· ((refine List.mem_append_right _ ?_); (repeat (first | (with_reducible exact List.mem_cons_self) | with_reducible apply List.mem_cons_of_mem)))); (· (simp only [ratA_sz, Nat.reduceAdd, Nat.reduceLeDiff, Nat.le_refl]; done)); (· with_reducible exact ratA_all ..); (simp only [Act.put, List.setIfInBounds_toArray, List.set_cons_zero, List.set_cons_succ])) | ((with_reducible apply wpQ_buildO); (· rfl); (· rfl); (· rfl); (· rfl); (· rfl); (· rfl); (· rfl); (simp only [Act.put, List.setIfInBounds_toArray, List.set_cons_zero, List.set_cons_succ])) | go_big_quiet_step (fail)); (refine wpQuiet_nil ?_); (simp only [Array.getD_eq_getD_getElem?, List.getElem?_toArray, List.getElem?_cons_succ, List.getElem?_cons_zero, Option.getD_some]; rfl)); (simp only [Act.put, List.setIfInBounds_toArray, List.set_cons_zero, List.set_cons_succ]))
        ((with_reducible apply wpW_allocR row_ofr); (· rfl); (· rfl); (· intro p; exact ⟨[_], rfl⟩); (intro po); (simp only [Act.put, List.setIfInBounds_toArray, List.set_cons_zero, List.set_cons_succ]))
        ((with_reducible apply wpW_storeR row_ofr); (· rfl); (· rfl); (· rfl); (· rfl); (· with_reducible exact ofr_cells ..); (· (repeat (first | (with_reducible exact List.mem_cons_self) | with_reducible apply List.mem_cons_of_mem))); (· (simp only [ofrA_sz, Nat.reduceAdd, Nat.reduceLeDiff, Nat.le_refl]; done)); (· with_reducible exact ofr_splice ..); (· (repeat (first | (with_reducible exact Repl.here) | with_reducible apply Repl.there))); (· exact ⟨[_], rfl⟩); (simp only [Act.put, List.setIfInBounds_toArray, List.set_cons_zero, List.set_cons_succ]))
        (refine wpW_nil ?_; clear H; intro _ H)
        go_wp2_with (first
          | go_skip
          | ((with_reducible show wpList _ _ _ (_ :: _) _ _); (with_reducible apply wpl_loadRH row_ofr); (· rfl); (· rfl); (· exact H); (· (repeat (first | (with_reducible exact List.mem_cons_self) | with_reducible apply List.mem_cons_of_mem))); (· (simp only [ofrA_sz, Nat.reduceAdd, Nat.reduceLeDiff, Nat.le_refl]; done)); (· with_reducible exact ofrA_all ..); (simp only [Act.put, List.setIfInBounds_toArray, List.set_cons_zero, List.set_cons_succ]))
          | ((with_reducible refine AnsH.call (M _) H ?_); clear H; intro _ H)
          | ((with_reducible show wpList _ _ _ (_ :: _) _ _); (with_reducible apply wpl_loadCH); (· first | exact cell_ofrs | exact cell_u64); (· rfl); (· rfl); (· exact H); (· (repeat (first | (with_reducible exact List.mem_cons_self) | with_reducible apply List.mem_cons_of_mem))); (· with_reducible first | exact bkb_g0 .. | exact bkb_g1 ..); (simp only [Act.put, List.setIfInBounds_toArray, List.set_cons_zero, List.set_cons_succ])))
        go_ret2
        exact ⟨rfl, a, n, c, HL.out, H.tail.tail⟩
    · have e1 := place_fine hb hf
      have e2 := placeN_yes e1
      have e3 := placeS_yes e1
      rw [e1, e2, e3]
      clear e1 e2 e3 hb
      have d1 : ((n : Int) == 32) = false := by simp; omega
      have d2 : (n == 32) = false := by simp; omega
      have d3 : (B.nx == 18446744073709551615) = false := by simp; omega
      have z1 : n ≤ maxLen := by unfold maxLen; omega
      have z2 : n * 40 ≤ 140737488355328 := by omega
      have hn1 : n + 1 ≤ maxLen := by unfold maxLen; omega
      have hn2 : (n + 1) * 40 ≤ 140737488355328 := by omega
      have hlen : (ofrL B.L).length = n * 7 := by rw [ofrL_len, hl]
      have HLL := Lib.hid (show (B.L ++ [(⟨B.nx, ow, se, bu, le, nu, de⟩ : Ofr)]).length = n + 1 by simp [hl])
      have HAP := Lib.hid (show ofrL (B.L ++ [(⟨B.nx, ow, se, bu, le, nu, de⟩ : Ofr)]) = ofrL B.L ++ (ofrA ⟨B.nx, ow, se, bu, le, nu, de⟩).toList by rw [ofrL_app, ofrL_one])
      have hwr : IntKind.u64.wrap (B.nx + 1) = B.nx + 1 := by simp [IntKind.wrap, IntKind.bits, IntKind.signed]; omega
      clear hf hfew hl
      go_enter Try.func71, Try.ntmps71
      go_wp2_with (first | ((with_reducible show wpList _ _ _ (_ :: _) _ _); (with_reducible apply wpl_boxRH); (· rfl); (· rfl); (· exact H); (clear H; intro px _ H); (simp only [Act.put, List.setIfInBounds_toArray, List.set_cons_zero, List.set_cons_succ])) | go_skip)
      refine wp_region_W [10, 11] (fun l0 => ∃ pre, l0 = pre ++ _) H ⟨[], rfl⟩ (by kernel_rfl) (by kernel_rfl) ?_
      iterate 10 (apply wpW_step; (· rfl); (· rfl); (· exact Nat.le_of_ble_eq_true rfl); (· rintro l0 ⟨pre, rfl⟩ w0 H0; (first | go_big_quiet_skip | ((with_reducible apply wpQ_loadCH); (· exact cell_u64); (· rfl); (· rfl); (· ((refine List.mem_append_right _ ?_); (repeat (first | (with_reducible exact List.mem_cons_self) | with_reducible apply List.mem_cons_of_mem)))); (· exact bkb_g1 ..); (simp only [Act.put, List.setIfInBounds_toArray, List.set_cons_zero, List.set_cons_succ])) | ((with_reducible apply wpQ_loadRH row_rat); (· rfl); (· rfl); (· ((refine List.mem_append_right _ ?_); (repeat (first | (with_reducible exact List.mem_cons_self) | with_reducible apply List.mem_cons_of_mem)))); (· (simp only [ratA_sz, Nat.reduceAdd, Nat.reduceLeDiff, Nat.le_refl]; done)); (· with_reducible exact ratA_all ..); (simp only [Act.put, List.setIfInBounds_toArray, List.set_cons_zero, List.set_cons_succ])) | ((with_reducible apply wpQ_buildO); (· rfl); (· rfl); (· rfl); (· rfl); (· rfl); (· rfl); (· rfl); (simp only [Act.put, List.setIfInBounds_toArray, List.set_cons_zero, List.set_cons_succ])) | go_big_quiet_step (fail)); (refine wpQuiet_nil ?_); (simp only [Array.getD_eq_getD_getElem?, List.getElem?_toArray, List.getElem?_cons_succ, List.getElem?_cons_zero, Option.getD_some]; rfl)); (simp only [Act.put, List.setIfInBounds_toArray, List.set_cons_zero, List.set_cons_succ]))
      ((with_reducible apply wpW_allocR row_ofr); (· rfl); (· rfl); (· intro p; exact ⟨[_], rfl⟩); (intro po); (simp only [Act.put, List.setIfInBounds_toArray, List.set_cons_zero, List.set_cons_succ]))
      ((with_reducible apply wpW_storeR row_ofr); (· rfl); (· rfl); (· rfl); (· rfl); (· with_reducible exact ofr_cells ..); (· (repeat (first | (with_reducible exact List.mem_cons_self) | with_reducible apply List.mem_cons_of_mem))); (· (simp only [ofrA_sz, Nat.reduceAdd, Nat.reduceLeDiff, Nat.le_refl]; done)); (· with_reducible exact ofr_splice ..); (· (repeat (first | (with_reducible exact Repl.here) | with_reducible apply Repl.there))); (· exact ⟨[_], rfl⟩); (simp only [Act.put, List.setIfInBounds_toArray, List.set_cons_zero, List.set_cons_succ]))
      (refine wpW_nil ?_; clear H; intro _ H)
      go_wp2_with (first
        | go_skip
        | ((with_reducible show wpList _ _ _ (_ :: _) _ _); (with_reducible apply wpl_loadRH row_ofr); (· rfl); (· rfl); (· exact H); (· (repeat (first | (with_reducible exact List.mem_cons_self) | with_reducible apply List.mem_cons_of_mem))); (· (simp only [ofrA_sz, Nat.reduceAdd, Nat.reduceLeDiff, Nat.le_refl]; done)); (· with_reducible exact ofrA_all ..); (simp only [Act.put, List.setIfInBounds_toArray, List.set_cons_zero, List.set_cons_succ]))
        | ((with_reducible refine AnsH.call (M _) H ?_); clear H; intro _ H)
        | ((with_reducible show wpList _ _ _ (_ :: _) _ _); (with_reducible apply wpl_loadCH); (· first | exact cell_ofrs | exact cell_u64); (· rfl); (· rfl); (· exact H); (· (repeat (first | (with_reducible exact List.mem_cons_self) | with_reducible apply List.mem_cons_of_mem))); (· with_reducible first | exact bkb_g0 .. | exact bkb_g1 ..); (simp only [Act.put, List.setIfInBounds_toArray, List.set_cons_zero, List.set_cons_succ])))
      refine wp_region_P [5, 7, 8, 11] [11] [(0, none), (1, none), (2, none), (3, none), (4, none), (6, none), (5, some 7), (8, none), (9, none), (10, none), (11, none)] (Keeps [Cel po (ofrA ⟨B.nx, ow, se, bu, le, nu, de⟩) 83]) (Keeps [RBk p (.slice a n c) B.nx]) H (by kernel_rfl) (by kernel_rfl) ?_
      iterate 4 (apply wpP_step; (· rfl); (· rfl); (· rfl); (· exact Nat.le_of_ble_eq_true rfl); (· exact keeps1 (by (repeat (first | (with_reducible exact List.mem_cons_self) | with_reducible apply List.mem_cons_of_mem)))); (· intro l0 hs0 w0 H0; (first | go_big_quiet_skip | fail | go_big_quiet_step (fail)); (refine wpQuiet_nil ?_); (simp only [Array.getD_eq_getD_getElem?, List.getElem?_toArray, List.getElem?_cons_succ, List.getElem?_cons_zero, Option.getD_some]; rfl)); (simp only [Act.put, List.setIfInBounds_toArray, List.set_cons_zero, List.set_cons_succ]))
      (apply wpP_early; (· rfl); (· rfl); (· kernel_rfl); (· rfl); (· exact Nat.le_of_ble_eq_true rfl); (· exact keeps1 (by (repeat (first | (with_reducible exact List.mem_cons_self) | with_reducible apply List.mem_cons_of_mem)))); (· intro l0 hs0 w0 H0; (first | ((with_reducible apply wpQ_loadCH); (· exact cell_ofrs); (· rfl); (· rfl); (· exact hs0 _ List.mem_cons_self); (· exact bkb_g0 ..); (simp only [Act.put, List.setIfInBounds_toArray, List.set_cons_zero, List.set_cons_succ]))); (refine wpQuiet_nil ?_); (simp only [Array.getD_eq_getD_getElem?, List.getElem?_toArray, List.getElem?_cons_succ, List.getElem?_cons_zero, Option.getD_some]; rfl)); (simp only [Act.put, List.setIfInBounds_toArray, List.set_cons_zero, List.set_cons_succ]))
      (apply wpP_step; (· rfl); (· rfl); (· rfl); (· exact Nat.le_of_ble_eq_true rfl); (· exact keeps1 (by (repeat (first | (with_reducible exact List.mem_cons_self) | with_reducible apply List.mem_cons_of_mem)))); (· intro l0 hs0 w0 H0; (first | go_big_quiet_skip | ((with_reducible apply wpQ_loadRH row_ofr); (· rfl); (· rfl); (· exact hs0 _ List.mem_cons_self); (· exact Nat.le_refl _); (· exact ofrA_all ..); (simp only [Act.put, List.setIfInBounds_toArray, List.set_cons_zero, List.set_cons_succ])) | go_big_quiet_step (fail)); (refine wpQuiet_nil ?_); (simp only [Array.getD_eq_getD_getElem?, List.getElem?_toArray, List.getElem?_cons_succ, List.getElem?_cons_zero, Option.getD_some]; rfl)); (simp only [Act.put, List.setIfInBounds_toArray, List.set_cons_zero, List.set_cons_succ]))
      refine wpP_cloneBs slO rfl rfl rfl rfl rfl (rfl : _ = Value.slice a n c) (fun _ => rfl) (fun _ => rfl) rfl (fun _ => rfl) (fun l' w' hh h => h.rowRd (hh _ (by (repeat (first | (with_reducible exact List.mem_cons_self) | with_reducible apply List.mem_cons_of_mem))))) hlen (ofrL_ones _) z1 z2 bs_ofr rfl (by decide) (fun l' hh => ⟨keeps1 (hh _ (by (repeat (first | (with_reducible exact List.mem_cons_self) | with_reducible apply List.mem_cons_of_mem)))), keeps1 (hh _ (by (repeat (first | (with_reducible exact List.mem_cons_self) | with_reducible apply List.mem_cons_of_mem))))⟩) fun pq a1 c1 => ?_
      (simp only [Act.put, List.setIfInBounds_toArray, List.set_cons_zero, List.set_cons_succ])
      refine wpP_append slO rfl rfl rfl rfl (.there .here) List.mem_cons_self rfl rfl (ofrA_ones _) hn1 hn2 (fun _ _ _ => keeps1 (by (repeat (first | (with_reducible exact List.mem_cons_self) | with_reducible apply List.mem_cons_of_mem)))) (fun _ _ => keeps1 (by (repeat (first | (with_reducible exact List.mem_cons_self) | with_reducible apply List.mem_cons_of_mem)))) fun a2 c2 => ?_
      (simp only [Act.put, List.setIfInBounds_toArray, List.set_cons_zero, List.set_cons_succ])
      iterate 2 (apply wpP_step; (· rfl); (· rfl); (· rfl); (· exact Nat.le_of_ble_eq_true rfl); (· exact keeps1 (by (repeat (first | (with_reducible exact List.mem_cons_self) | with_reducible apply List.mem_cons_of_mem)))); (· intro l0 hs0 w0 H0; (first | go_big_quiet_skip | fail | go_big_quiet_step (fail)); (refine wpQuiet_nil ?_); (simp only [Array.getD_eq_getD_getElem?, List.getElem?_toArray, List.getElem?_cons_succ, List.getElem?_cons_zero, Option.getD_some]; rfl)); (simp only [Act.put, List.setIfInBounds_toArray, List.set_cons_zero, List.set_cons_succ]))
      refine wpP_storeC (v := .slice a2 (n + 1) c2) cell_ofrs rfl rfl rfl rfl rfl ⟨rfl, rfl⟩ (by (repeat (first | (with_reducible exact List.mem_cons_self) | with_reducible apply List.mem_cons_of_mem))) (by rw [bkb_sz]; decide) (bkb_s0 ..) (by (repeat (first | (with_reducible exact Repl.here) | with_reducible apply Repl.there))) rfl (keeps1 (by (repeat (first | (with_reducible exact List.mem_cons_self) | with_reducible apply List.mem_cons_of_mem)))) ?_
      (simp only [Act.put, List.setIfInBounds_toArray, List.set_cons_zero, List.set_cons_succ])
      (refine wpP_nil ?_; clear H; intro _ H)
      go_wp2_with (first
        | go_skip
        | ((with_reducible show wpList _ _ _ (_ :: _) _ _); (with_reducible apply wpl_loadCH); (· first | exact cell_ofrs | exact cell_u64); (· rfl); (· rfl); (· exact H); (· (repeat (first | (with_reducible exact List.mem_cons_self) | with_reducible apply List.mem_cons_of_mem))); (· with_reducible first | exact bkb_g0 .. | exact bkb_g1 ..); (simp only [Act.put, List.setIfInBounds_toArray, List.set_cons_zero, List.set_cons_succ]))
        | (first | ((with_reducible show wpList _ _ _ (_ :: _) _ _); (with_reducible apply wpl_storeIH); (· exact cell_u64); (· rfl); (· rfl); (· rfl); (· exact H); (· (repeat (first | (with_reducible exact List.mem_cons_self) | with_reducible apply List.mem_cons_of_mem))); (· (simp only [bkb_sz, Nat.reduceLT]; done)); (· (with_reducible first | exact bkb_s0 .. | exact bkb_s1 ..)); (· (repeat (first | (with_reducible exact Repl.here) | with_reducible apply Repl.there))); (clear H; intro _ H); (simp only [Act.put, List.setIfInBounds_toArray, List.set_cons_zero, List.set_cons_succ])) | ((with_reducible show wpList _ _ _ (_ :: _) _ _); (with_reducible apply wpl_storeBH); (· exact cell_u64); (· rfl); (· rfl); (· rfl); (· exact H); (· (repeat (first | (with_reducible exact List.mem_cons_self) | with_reducible apply List.mem_cons_of_mem))); (· (simp only [bkb_sz, Nat.reduceLT]; done)); (· (with_reducible first | exact bkb_s0 .. | exact bkb_s1 ..)); (· (repeat (first | (with_reducible exact Repl.here) | with_reducible apply Repl.there))); (clear H; intro _ H); (simp only [Act.put, List.setIfInBounds_toArray, List.set_cons_zero, List.set_cons_succ])) | ((with_reducible show wpList _ _ _ (_ :: _) _ _); (with_reducible apply wpl_storeSH); (· exact cell_u64); (· rfl); (· rfl); (· rfl); (· exact H); (· (repeat (first | (with_reducible exact List.mem_cons_self) | with_reducible apply List.mem_cons_of_mem))); (· (simp only [bkb_sz, Nat.reduceLT]; done)); (· (with_reducible first | exact bkb_s0 .. | exact bkb_s1 ..)); (· (repeat (first | (with_reducible exact Repl.here) | with_reducible apply Repl.there))); (clear H; intro _ H); (simp only [Act.put, List.setIfInBounds_toArray, List.set_cons_zero, List.set_cons_succ])) | ((with_reducible show wpList _ _ _ (_ :: _) _ _); (with_reducible apply wpl_storePH); (· exact cell_u64); (· rfl); (· rfl); (· rfl); (· exact H); (· (repeat (first | (with_reducible exact List.mem_cons_self) | with_reducible apply List.mem_cons_of_mem))); (· (simp only [bkb_sz, Nat.reduceLT]; done)); (· (with_reducible first | exact bkb_s0 .. | exact bkb_s1 ..)); (· (repeat (first | (with_reducible exact Repl.here) | with_reducible apply Repl.there))); (clear H; intro _ H); (simp only [Act.put, List.setIfInBounds_toArray, List.set_cons_zero, List.set_cons_succ])))
        | ((with_reducible show wpList _ _ _ (_ :: _) _ _); (with_reducible apply wpl_loadCH); (· first | exact cell_u64 | exact cell_party | exact cell_cur | exact cell_i64); (· rfl); (· rfl); (· exact H); (· (repeat (first | (with_reducible exact List.mem_cons_self) | with_reducible apply List.mem_cons_of_mem))); (· with_reducible first | exact ofr_g0 .. | exact ofr_g1 .. | exact ofr_g2 .. | exact ofr_g3 .. | exact ofr_g4 ..); (simp only [Act.put, List.setIfInBounds_toArray, List.set_cons_zero, List.set_cons_succ])))
      go_ret2
      refine ⟨rfl, a2, n + 1, c2, HLL.out, ?_⟩
      show Heap W (RBk p _ _ :: RowT 83 7 _ _ (ofrL _) :: l) _
      rw [HAP.out]
      exact ((((H.drop (.there .here)).drop (.there .here)).drop (.there .here)).drop (.there (.there .here))).perm (.swap _ _ _)
end
end Go.Proofs.Ytacglcpjbepfnaa
