/- books: Take. -/
import Derived.Test.YtacglcpjbepfnaaBok7
namespace Go.Proofs.Ytacglcpjbepfnaa
open Go.RowKit
set_option linter.unusedSimpArgs false
set_option linter.unusedVariables false
set_option maxRecDepth 100000
theorem ofrL_set : ∀ {L : List Ofr} {k : Nat} {o : Ofr} (x : Int), L[k]? = some o → (ofrL L).set (k * 7 + 4) (.int .i64 x) = ofrL (L.set k { o with le := x })
  | [], k, o, x, h => by simp at h
  | a :: L, 0, o, x, h => by
    rw [List.getElem?_cons_zero] at h
    cases h
    simp [ofrL, ofrV]
  | a :: L, k + 1, o, x, h => by
    rw [List.getElem?_cons_succ] at h
    have ih := ofrL_set x h
    unfold ofrL at ih ⊢
    rw [List.set_cons_succ, List.flatMap_cons, List.flatMap_cons, ← ih, List.set_append_right _ _ (by simp [ofrV]; omega)]
    congr 2
    simp [ofrV]
    omega
theorem cur_set {cur : Array Value} {L : List Ofr} {n k : Nat} {o : Ofr} (x : Int) (h : cur.toList.take (n * 7) = ofrL L) (hg : L[k]? = some o) : (cur.setIfInBounds (k * 7 + 4) (.int .i64 x)).toList.take (n * 7) = ofrL (L.set k { o with le := x }) := by
  rw [Array.toList_setIfInBounds, List.take_set, h, ofrL_set x hg]
theorem cur_get {cur : Array Value} {L : List Ofr} {n k : Nat} {o : Ofr} (h : cur.toList.take (n * 7) = ofrL L) (hg : L[k]? = some o) : cur[k * 7 + 4]? = some (.int .i64 o.le) := by
  obtain ⟨hk, hx⟩ := List.getElem?_eq_some_iff.1 hg
  have h2 := ofrL_at L k hk
  rw [hx] at h2
  have h3 : (ofrV o)[4]? = some (.int .i64 o.le) := rfl
  rw [← h2, List.getElem?_take, if_pos (by omega), List.getElem?_drop, ← h, List.getElem?_take] at h3
  split at h3
  · rw [← h3]; simp
  · cases h3
theorem OfT.of {W w : World} {l : List Thing} {g n m : Nat} {c : Array Value} {L : List Ofr} (H : Heap W (Cel g c 83 :: l) w) (hc : c.size = m * 7) (hn : n ≤ m) (hm : m ≤ maxLen) (h : c.toList.take (n * 7) = ofrL L) : Heap W (OfT (.slice (some ⟨g, 0, none⟩) n m) n L :: l) w := by
  have := H.celRowA (size := 7) hc hn hm
  rw [h] at this
  exact this
theorem rd_ofr0 {w : World} {g k j : Nat} {L : List Ofr} {y : Ofr} {v : Value} (R : Rd w (some ⟨g, 0, none⟩) (ofrL L)) (h : L[k]? = some y) (hj : (ofrV y)[j]? = some v) : w.cell? ⟨g, k * 7 + j, none⟩ = some v := by
  have := rd_ofr R h hj
  rwa [Nat.zero_add] at this
section
variable {W w : World} {l : List Thing}
set_option maxHeartbeats 8000000
theorem take_nil (s n : Int) : Ans 60 #[.pointer none, .int .u64 s, .int .i64 n] (.int .i64 2) := by
  intro w
  have T := bthere_nil
  go_enter Try.func60, Try.ntmps60
  go_wp2_with (first | go_skip | ((with_reducible refine Ans.call (by assumption) ?_); intro _))
  go_ret
  exact ⟨rfl, (by repeat (first | exact Ext.refl _ | refine Ext.alloc ?_ _ | refine Ext.ext ?_ _ | refine Ext.drew ?_))⟩
theorem take_zero {p : Nat} {v : Value} (s n : Int) (m : BkB p v 0 ∈ l) : AnsH W l 60 #[.pointer (some ⟨p, 0, none⟩), .int .u64 s, .int .i64 n] (.int .i64 2) := by
  intro w H
  have T := bthere_zero (W := W) m
  go_enter Try.func60, Try.ntmps60
  go_wp2_with (first | go_skip | ((with_reducible refine AnsH.call (by assumption) H ?_); clear H; intro _ H))
  go_ret
  exact ⟨rfl, H⟩
theorem take_H {p : Nat} {v : Value} {B : Bok} (s x : Int) (hx : -9223372036854775808 ≤ x ∧ x ≤ 9223372036854775807) (G : B.Good) (H : Heap W (BkB p v B.nx :: OfT v B.L.length B.L :: l) w) :
    Calls Try.prog 60 #[.pointer (some ⟨p, 0, none⟩), .int .u64 s, .int .i64 x] w fun e w' =>
      ∃ v', e = .returned (.int .i64 (takeE B s x)) ∧ Heap W (BkB p v' (takeS B s x).nx :: OfT v' (takeS B s x).L.length (takeS B s x).L :: l) w' := by
  obtain ⟨va, c, rfl, hc1, hc2⟩ := RowT.form0 (H.ok _ (List.mem_cons_of_mem _ List.mem_cons_self))
  have hfew := G.few
  have hnx1 := G.nx.1
  have T := bthere_yes (W := W) (l := BkB p (.slice va B.L.length c) B.nx :: OfT (.slice va B.L.length c) B.L.length B.L :: l) List.mem_cons_self (show 0 < B.nx by omega)
  have A := at_H (W := W) (l := BkB p (.slice va B.L.length c) B.nx :: OfT (.slice va B.L.length c) B.L.length B.L :: l) s List.mem_cons_self (List.mem_cons_of_mem _ List.mem_cons_self) rfl (by omega)
  cases hf : findO B.L s with
  | none =>
    have e1 : takeE B s x = 7 := by unfold takeE; rw [hf]
    have e3 : takeS B s x = B := by unfold takeS; rw [hf]
    rw [e1, e3]
    rw [idxO_none hf] at A
    clear e1 e3 hf
    generalize B.L.length = n at *
    go_enter Try.func60, Try.ntmps60
    go_wp2_with (first | go_skip | ((with_reducible refine AnsH.call (by assumption) H ?_); clear H; intro _ H))
    go_ret
    exact ⟨_, rfl, H⟩
  | some o =>
    obtain ⟨hi, hg, hlt⟩ := idxO_some hf
    rw [hi] at A
    have hmem := (findO_some hf).1
    have hle := (mayO_iff.1 (G.ok o hmem).1).2.2.2.2.1
    have Rw := H.rowRd (List.mem_cons_of_mem _ List.mem_cons_self)
    obtain ⟨ba, oa, rfl, _⟩ := Rw.lt (by rw [ofrL_len]; omega)
    by_cases h1 : x < 1
    · have d1 : decide (x < 1) = true := decide_eq_true h1
      have e1 : takeE B s x = 1 := by unfold takeE; rw [hf]; simp [h1]
      have e3 : takeS B s x = B := by unfold takeS; rw [hf]; simp [h1]
      rw [e1, e3]
      clear e1 e3 hf hg hi h1
      generalize iO B.L s = k at *
      generalize B.L.length = n at *
      go_enter Try.func60, Try.ntmps60
      go_wp2_with (first | go_skip | ((with_reducible refine AnsH.call (by assumption) H ?_); clear H; intro _ H))
      go_ret
      exact ⟨_, rfl, H⟩
    · have d1 : decide (x < 1) = false := decide_eq_false h1
      by_cases h2 : o.le < x
      · have d2 : decide (x > o.le) = true := decide_eq_true h2
        have d3 : decide (o.le < x) = true := decide_eq_true h2
        have e1 : takeE B s x = 1 := by unfold takeE; rw [hf]; simp [h2]
        have e3 : takeS B s x = B := by unfold takeS; rw [hf]; simp [h2]
        rw [e1, e3]
        have HF := Lib.hid (⟨hf, hi, hg⟩ : _ ∧ _ ∧ _)
        clear e1 e3 hf hg hi h1 h2 Rw
        generalize iO B.L s = k at *
        generalize hn : B.L.length = n at *
        go_enter Try.func60, Try.ntmps60
        go_wp2_with (first
          | go_skip
          | ((with_reducible refine AnsH.call (by assumption) H ?_); clear H; intro _ H)
          | ((with_reducible show wpList _ _ _ (_ :: _) _ _); (with_reducible apply wpl_loadCH); (· exact cell_ofrs); (· rfl); (· rfl); (· exact H); (· exact List.mem_cons_self); (· exact bkb_g0 ..); (simp only [Act.put, List.setIfInBounds_toArray, List.set_cons_zero, List.set_cons_succ]))
          | ((with_reducible show wpList _ _ _ (_ :: _) _ _); (with_reducible apply wpl_loadCell cell_i64); (· rfl); (· rfl); (· exact rd_ofr (H.rowRd (List.mem_cons_of_mem _ List.mem_cons_self)) HF.out.2.2 (j := 4) rfl); (simp only [Act.put, List.setIfInBounds_toArray, List.set_cons_zero, List.set_cons_succ])))
        go_ret
        exact ⟨_, rfl, H⟩
      · have d2 : decide (x > o.le) = false := decide_eq_false h2
        have d3 : decide (o.le < x) = false := decide_eq_false h2
        have e1 : takeE B s x = 0 := by unfold takeE; rw [hf]; simp [h1, h2]
        have e3 : takeS B s x = ⟨setO B.L s (o.le - x), B.nx⟩ := by unfold takeS; rw [hf]; simp [h1, h2]
        rw [e1, e3]
        clear Rw
        obtain ⟨g, c', cur, hv, -, -, -, -, -⟩ := (H.perm (.swap _ _ _)).rowCelO (by omega)
        cases hv
        clear cur
        have HK := Lib.hid (show ∀ V, Heap W (BkB p (.slice (some ⟨ba, 0, none⟩) B.L.length c) B.nx :: OfT (.slice (some ⟨ba, 0, none⟩) B.L.length c) B.L.length B.L :: l) V → ∃ cur : Array Value, cur.size = c * 7 ∧ cur.toList.take (B.L.length * 7) = ofrL B.L ∧ Heap W (Cel ba cur 83 :: BkB p (.slice (some ⟨ba, 0, none⟩) B.L.length c) B.nx :: l) V from fun V HV => by
          obtain ⟨g', c', cur, hv, _, _, hs1, hs2, H'⟩ := (HV.perm (.swap _ _ _)).rowCelO (by omega)
          cases hv
          exact ⟨cur, hs1, hs2, H'⟩)
        have hpos := setO_pos (v := o.le - x) (s := s) (L := B.L) (o := o)
        have hzero := setO_zero (s := s) (L := B.L) (o := o)
        have HF := Lib.hid (⟨hf, hi, hg, (fun h : 0 < o.le - x => hpos h G.ord G.pos hg), hzero G.ord G.pos hg⟩ : _ ∧ _ ∧ _ ∧ _ ∧ _)
        clear e1 e3 hf hg hi hpos hzero hmem
        have HG := Lib.hid (show (B.L.set (iO B.L s) { o with le := o.le - x })[iO B.L s]? = some { o with le := o.le - x } by rw [List.getElem?_set_self hlt])
        have HS := Lib.hid (show (B.L.set (iO B.L s) { o with le := o.le - x }).length = B.L.length by rw [List.length_set])
        have HE := Lib.hid (show (B.L.eraseIdx (iO B.L s)).length = B.L.length - 1 by rw [List.length_eraseIdx, if_pos hlt])
        generalize iO B.L s = k at *
        generalize hn : B.L.length = n at *
        by_cases h3 : o.le - x = 0
        · have d4 : (o.le - x == 0) = true := by simpa using h3
          rw [h3, HF.out.2.2.2.2]
          have H3 := Lib.hid h3
          clear h3
          go_enter Try.func60, Try.ntmps60
          go_wp2_with (first
            | ((obtain ⟨cur, hs1, hs2, H2⟩ := HK.out _ H); (with_reducible show wpList _ _ _ (_ :: _) _ _); (with_reducible apply wpl_storeIH); (· exact cell_i64); (· rfl); (· rfl); (· rfl); (· exact H2); (· exact List.mem_cons_self); (· omega); (· rfl); (· exact Repl.here); (clear H H2; intro _ H; replace H := (OfT.of H (by simpa using hs1) hc1 hc2 (cur_set (o.le - x) hs2 HF.out.2.2.1)).perm (.swap _ _ _); clear hs1 hs2; clear cur); (simp only [Act.put, List.setIfInBounds_toArray, List.set_cons_zero, List.set_cons_succ]))
            | go_skip
            | ((with_reducible refine AnsH.call (by assumption) H ?_); clear H; intro _ H)
            | ((with_reducible show wpList _ _ _ (_ :: _) _ _); (with_reducible apply wpl_loadCH); (· exact cell_ofrs); (· rfl); (· rfl); (· exact H); (· exact List.mem_cons_self); (· exact bkb_g0 ..); (simp only [Act.put, List.setIfInBounds_toArray, List.set_cons_zero, List.set_cons_succ]))
            | ((with_reducible show wpList _ _ _ (_ :: _) _ _); (with_reducible apply wpl_loadCell cell_i64); (· rfl); (· rfl); (· first | exact rd_ofr0 (H.rowRd (List.mem_cons_of_mem _ List.mem_cons_self)) HF.out.2.2.1 (j := 4) rfl | exact rd_ofr0 (H.rowRd (List.mem_cons_of_mem _ List.mem_cons_self)) HG.out (j := 4) rfl); (simp only [Act.put, List.setIfInBounds_toArray, List.set_cons_zero, List.set_cons_succ])))
          refine (deleteO_H HS.out hlt (by omega) (H.perm (.swap _ _ _))).mono ?_
          clear H
          rintro e w2 ⟨v2, rfl, H⟩
          rw [List.eraseIdx_set_eq] at H
          obtain ⟨a2, c2, rfl, hd1, hd2⟩ := RowT.form0 (H.ok _ List.mem_cons_self)
          go_wp2_with (first | go_skip | (first | ((with_reducible show wpList _ _ _ (_ :: _) _ _); (with_reducible apply wpl_storeIH); (· exact cell_ofrs); (· rfl); (· rfl); (· rfl); (· exact H); (· (repeat (first | (with_reducible exact List.mem_cons_self) | with_reducible apply List.mem_cons_of_mem))); (· (simp only [bkb_sz, Nat.reduceLT]; done)); (· (with_reducible first | exact bkb_s0 .. | exact bkb_s1 ..)); (· (repeat (first | (with_reducible exact Repl.here) | with_reducible apply Repl.there))); (clear H; intro _ H); (simp only [Act.put, List.setIfInBounds_toArray, List.set_cons_zero, List.set_cons_succ])) | ((with_reducible show wpList _ _ _ (_ :: _) _ _); (with_reducible apply wpl_storeBH); (· exact cell_ofrs); (· rfl); (· rfl); (· rfl); (· exact H); (· (repeat (first | (with_reducible exact List.mem_cons_self) | with_reducible apply List.mem_cons_of_mem))); (· (simp only [bkb_sz, Nat.reduceLT]; done)); (· (with_reducible first | exact bkb_s0 .. | exact bkb_s1 ..)); (· (repeat (first | (with_reducible exact Repl.here) | with_reducible apply Repl.there))); (clear H; intro _ H); (simp only [Act.put, List.setIfInBounds_toArray, List.set_cons_zero, List.set_cons_succ])) | ((with_reducible show wpList _ _ _ (_ :: _) _ _); (with_reducible apply wpl_storeSH); (· exact cell_ofrs); (· rfl); (· rfl); (· rfl); (· exact H); (· (repeat (first | (with_reducible exact List.mem_cons_self) | with_reducible apply List.mem_cons_of_mem))); (· (simp only [bkb_sz, Nat.reduceLT]; done)); (· (with_reducible first | exact bkb_s0 .. | exact bkb_s1 ..)); (· (repeat (first | (with_reducible exact Repl.here) | with_reducible apply Repl.there))); (clear H; intro _ H); (simp only [Act.put, List.setIfInBounds_toArray, List.set_cons_zero, List.set_cons_succ])) | ((with_reducible show wpList _ _ _ (_ :: _) _ _); (with_reducible apply wpl_storePH); (· exact cell_ofrs); (· rfl); (· rfl); (· rfl); (· exact H); (· (repeat (first | (with_reducible exact List.mem_cons_self) | with_reducible apply List.mem_cons_of_mem))); (· (simp only [bkb_sz, Nat.reduceLT]; done)); (· (with_reducible first | exact bkb_s0 .. | exact bkb_s1 ..)); (· (repeat (first | (with_reducible exact Repl.here) | with_reducible apply Repl.there))); (clear H; intro _ H); (simp only [Act.put, List.setIfInBounds_toArray, List.set_cons_zero, List.set_cons_succ]))))
          go_ret
          refine ⟨.slice a2 (n - 1) c2, rfl, ?_⟩
          show Heap W (BkB p _ _ :: OfT _ (B.L.eraseIdx k).length _ :: l) _
          rw [HE.out]
          exact H.perm (.swap _ _ _)
        · have d4 : (o.le - x == 0) = false := by simpa using h3
          rw [HF.out.2.2.2.1 (by omega)]
          clear h3
          go_enter Try.func60, Try.ntmps60
          go_wp2_with (first
            | ((obtain ⟨cur, hs1, hs2, H2⟩ := HK.out _ H); (with_reducible show wpList _ _ _ (_ :: _) _ _); (with_reducible apply wpl_storeIH); (· exact cell_i64); (· rfl); (· rfl); (· rfl); (· exact H2); (· exact List.mem_cons_self); (· omega); (· rfl); (· exact Repl.here); (clear H H2; intro _ H; replace H := (OfT.of H (by simpa using hs1) hc1 hc2 (cur_set (o.le - x) hs2 HF.out.2.2.1)).perm (.swap _ _ _); clear hs1 hs2; clear cur); (simp only [Act.put, List.setIfInBounds_toArray, List.set_cons_zero, List.set_cons_succ]))
            | go_skip
            | ((with_reducible refine AnsH.call (by assumption) H ?_); clear H; intro _ H)
            | ((with_reducible show wpList _ _ _ (_ :: _) _ _); (with_reducible apply wpl_loadCH); (· exact cell_ofrs); (· rfl); (· rfl); (· exact H); (· exact List.mem_cons_self); (· exact bkb_g0 ..); (simp only [Act.put, List.setIfInBounds_toArray, List.set_cons_zero, List.set_cons_succ]))
            | ((with_reducible show wpList _ _ _ (_ :: _) _ _); (with_reducible apply wpl_loadCell cell_i64); (· rfl); (· rfl); (· first | exact rd_ofr0 (H.rowRd (List.mem_cons_of_mem _ List.mem_cons_self)) HF.out.2.2.1 (j := 4) rfl | exact rd_ofr0 (H.rowRd (List.mem_cons_of_mem _ List.mem_cons_self)) HG.out (j := 4) rfl); (simp only [Act.put, List.setIfInBounds_toArray, List.set_cons_zero, List.set_cons_succ])))
          go_ret
          refine ⟨.slice (some ⟨ba, 0, none⟩) n c, rfl, ?_⟩
          show Heap W (BkB p _ _ :: OfT _ (B.L.set k _).length _ :: l) _
          rw [HS.out]
          exact H
end
end Go.Proofs.Ytacglcpjbepfnaa
