/- books: Cancel. -/
import Derived.Test.YtacglcpjbepfnaaBok6
namespace Go.Proofs.Ytacglcpjbepfnaa
open Go.RowKit
set_option linter.unusedSimpArgs false
set_option linter.unusedVariables false
set_option maxRecDepth 100000
theorem setO_none {L : List Ofr} {s v : Int} (h : ∀ o ∈ L, o.sq ≠ s) (hp : ∀ o ∈ L, 0 < o.le) : setO L s v = L := by
  unfold setO
  have e : (L.map fun o => if o.sq = s then { o with le := v } else o) = L := by
    conv => rhs; rw [← List.map_id L]
    exact List.map_congr_left fun o ho => if_neg (h o ho)
  rw [e]
  exact List.filter_eq_self.2 fun o ho => by simpa using hp o ho
theorem setO_zero : ∀ {L : List Ofr} {s : Int} {o : Ofr}, L.Pairwise (fun x y => x.sq < y.sq) → (∀ o ∈ L, 0 < o.le) → L[iO L s]? = some o → setO L s 0 = L.eraseIdx (iO L s)
  | [], s, o, _, _, h => by simp at h
  | a :: L, s, o, hw, hp, h => by
    rw [List.pairwise_cons] at hw
    by_cases e : a.sq = s
    · have hi : iO (a :: L) s = 0 := by simp [iO, List.findIdx_cons, e]
      rw [hi, List.eraseIdx_zero, List.tail_cons]
      have h2 := setO_none (L := L) (s := s) (v := 0) (fun x hx => by have := hw.1 x hx; omega) (fun x hx => hp x (List.mem_cons_of_mem _ hx))
      unfold setO at h2 ⊢
      rw [List.map_cons, if_pos e, List.filter_cons_of_neg (by simp), h2]
    · have hi : iO (a :: L) s = iO L s + 1 := by simp [iO, List.findIdx_cons, beq_eq_false_iff_ne.2 e]
      rw [hi] at h ⊢
      rw [List.getElem?_cons_succ] at h
      rw [List.eraseIdx_cons_succ, ← setO_zero hw.2 (fun x hx => hp x (List.mem_cons_of_mem _ hx)) h]
      have := hp a List.mem_cons_self
      unfold setO
      rw [List.map_cons, if_neg e, List.filter_cons_of_pos (by simpa using this)]
theorem setO_pos : ∀ {L : List Ofr} {s v : Int} {o : Ofr}, 0 < v → L.Pairwise (fun x y => x.sq < y.sq) → (∀ o ∈ L, 0 < o.le) → L[iO L s]? = some o → setO L s v = L.set (iO L s) { o with le := v }
  | [], s, v, o, _, _, _, h => by simp at h
  | a :: L, s, v, o, hv, hw, hp, h => by
    rw [List.pairwise_cons] at hw
    by_cases e : a.sq = s
    · have hi : iO (a :: L) s = 0 := by simp [iO, List.findIdx_cons, e]
      rw [hi] at h ⊢
      rw [List.getElem?_cons_zero] at h
      cases h
      rw [List.set_cons_zero]
      have h2 := setO_none (L := L) (s := s) (v := v) (fun x hx => by have := hw.1 x hx; omega) (fun x hx => hp x (List.mem_cons_of_mem _ hx))
      unfold setO at h2 ⊢
      rw [List.map_cons, if_pos e, List.filter_cons_of_pos (by simpa using hv), h2]
    · have hi : iO (a :: L) s = iO L s + 1 := by simp [iO, List.findIdx_cons, beq_eq_false_iff_ne.2 e]
      rw [hi] at h ⊢
      rw [List.getElem?_cons_succ] at h
      rw [List.set_cons_succ, ← setO_pos hv hw.2 (fun x hx => hp x (List.mem_cons_of_mem _ hx)) h]
      have := hp a List.mem_cons_self
      unfold setO
      rw [List.map_cons, if_neg e, List.filter_cons_of_pos (by simpa using this)]
theorem Bok.Good.pos {B : Bok} (G : B.Good) : ∀ o ∈ B.L, 0 < o.le := fun o ho => by have := (mayO_iff.1 (G.ok o ho).1).2.2.2.2.1; omega
theorem rd_ofr {w : World} {g o k j : Nat} {L : List Ofr} {y : Ofr} {v : Value} (R : Rd w (some ⟨g, o, none⟩) (ofrL L)) (h : L[k]? = some y) (hj : (ofrV y)[j]? = some v) : w.cell? ⟨g, o + k * 7 + j, none⟩ = some v := by
  obtain ⟨hk, hx⟩ := List.getElem?_eq_some_iff.1 h
  have h7 : j < 7 := by
    have := (List.getElem?_eq_some_iff.1 hj).1
    simpa [ofrV] using this
  obtain ⟨b, o', he, hc⟩ := R (k * 7 + j) (by rw [ofrL_len]; omega)
  cases he
  rw [Nat.add_assoc, hc]
  have h2 := ofrL_at L k hk
  rw [hx] at h2
  rw [← h2, List.getElem?_take, if_pos h7, List.getElem?_drop] at hj
  rw [← hj, List.getElem?_eq_getElem (by rw [ofrL_len]; omega)]
section
variable {W w : World} {l : List Thing}
set_option maxHeartbeats 8000000
theorem cancel_nil (ow s : Int) : Ans 59 #[.pointer none, .int .u8 ow, .int .u64 s] (.tuple #[.int .i64 0, .int .i64 2]) := by
  intro w
  have T := bthere_nil
  go_enter Try.func59, Try.ntmps59
  go_wp2_with (first | go_skip | ((with_reducible refine Ans.call (by assumption) ?_); intro _))
  go_ret2
  exact ⟨rfl, (by repeat (first | exact Ext.refl _ | refine Ext.alloc ?_ _ | refine Ext.ext ?_ _ | refine Ext.drew ?_))⟩
theorem cancel_zero {p : Nat} {v : Value} (ow s : Int) (m : BkB p v 0 ∈ l) : AnsH W l 59 #[.pointer (some ⟨p, 0, none⟩), .int .u8 ow, .int .u64 s] (.tuple #[.int .i64 0, .int .i64 2]) := by
  intro w H
  have T := bthere_zero (W := W) m
  go_enter Try.func59, Try.ntmps59
  go_wp2_with (first | go_skip | ((with_reducible refine AnsH.call (by assumption) H ?_); clear H; intro _ H))
  go_ret2
  exact ⟨rfl, H⟩
theorem cancel_H {p : Nat} {v : Value} {B : Bok} (ow s : Int) (G : B.Good) (H : Heap W (BkB p v B.nx :: OfT v B.L.length B.L :: l) w) :
    Calls Try.prog 59 #[.pointer (some ⟨p, 0, none⟩), .int .u8 ow, .int .u64 s] w fun e w' =>
      ∃ v', e = .returned (.tuple #[.int .i64 (cancelN B ow s), .int .i64 (cancelE B ow s)]) ∧ Heap W (BkB p v' (cancelS B ow s).nx :: OfT v' (cancelS B ow s).L.length (cancelS B ow s).L :: l) w' := by
  obtain ⟨va, c, rfl, hc1, hc2⟩ := RowT.form0 (H.ok _ (List.mem_cons_of_mem _ List.mem_cons_self))
  have hfew := G.few
  have hnx1 := G.nx.1
  have T := bthere_yes (W := W) (l := BkB p (.slice va B.L.length c) B.nx :: OfT (.slice va B.L.length c) B.L.length B.L :: l) List.mem_cons_self (show 0 < B.nx by omega)
  have A := at_H (W := W) (l := BkB p (.slice va B.L.length c) B.nx :: OfT (.slice va B.L.length c) B.L.length B.L :: l) s List.mem_cons_self (List.mem_cons_of_mem _ List.mem_cons_self) rfl (by omega)
  cases hf : findO B.L s with
  | none =>
    have e1 : cancelE B ow s = 7 := by unfold cancelE; rw [hf]
    have e2 : cancelN B ow s = 0 := by unfold cancelN; rw [hf]
    have e3 : cancelS B ow s = B := by unfold cancelS; rw [e1]; rfl
    rw [e1, e2, e3]
    rw [idxO_none hf] at A
    clear e1 e2 e3 hf
    generalize B.L.length = n at *
    go_enter Try.func59, Try.ntmps59
    go_wp2_with (first | go_skip | ((with_reducible refine AnsH.call (by assumption) H ?_); clear H; intro _ H))
    go_ret2
    exact ⟨_, rfl, H⟩
  | some o =>
    obtain ⟨hi, hg, hlt⟩ := idxO_some hf
    rw [hi] at A
    have Rw := H.rowRd (List.mem_cons_of_mem _ List.mem_cons_self)
    obtain ⟨ba, oa, rfl, _⟩ := Rw.lt (by rw [ofrL_len]; omega)
    by_cases ho : o.ow = ow
    · have d1 : (o.ow == ow) = true := by simpa using ho
      have d2 : (o.ow != ow) = false := by simp [ho]
      have e1 : cancelE B ow s = 0 := by unfold cancelE; rw [hf]; simp [ho]
      have e2 : cancelN B ow s = o.le := by unfold cancelN; rw [hf]; simp [ho]
      have e3 : cancelS B ow s = ⟨B.L.eraseIdx (iO B.L s), B.nx⟩ := by unfold cancelS; rw [if_pos e1, setO_zero G.ord G.pos hg]
      rw [e1, e2, e3]
      have HE := Lib.hid (show (B.L.eraseIdx (iO B.L s)).length = B.L.length - 1 by rw [List.length_eraseIdx, if_pos hlt])
      have HF := Lib.hid (⟨hf, hi, hg, e1, e2, e3⟩ : _ ∧ _ ∧ _ ∧ _ ∧ _ ∧ _)
      clear hf hi hg e1 e2 e3 ho Rw
      generalize iO B.L s = k at *
      generalize hn : B.L.length = n at *
      go_enter Try.func59, Try.ntmps59
      go_wp2_with (first
        | go_skip
        | ((with_reducible refine AnsH.call (by assumption) H ?_); clear H; intro _ H)
        | ((with_reducible show wpList _ _ _ (_ :: _) _ _); (with_reducible apply wpl_loadCH); (· exact cell_ofrs); (· rfl); (· rfl); (· exact H); (· exact List.mem_cons_self); (· exact bkb_g0 ..); (simp only [Act.put, List.setIfInBounds_toArray, List.set_cons_zero, List.set_cons_succ]))
        | ((with_reducible show wpList _ _ _ (_ :: _) _ _); (with_reducible apply wpl_loadCell cell_party); (· rfl); (· rfl); (· exact rd_ofr (H.rowRd (List.mem_cons_of_mem _ List.mem_cons_self)) HF.out.2.2.1 (j := 1) rfl); (simp only [Act.put, List.setIfInBounds_toArray, List.set_cons_zero, List.set_cons_succ]))
        | ((with_reducible show wpList _ _ _ (_ :: _) _ _); (with_reducible apply wpl_loadCell cell_i64); (· rfl); (· rfl); (· exact rd_ofr (H.rowRd (List.mem_cons_of_mem _ List.mem_cons_self)) HF.out.2.2.1 (j := 4) rfl); (simp only [Act.put, List.setIfInBounds_toArray, List.set_cons_zero, List.set_cons_succ])))
      refine (deleteO_H hn hlt (by omega) (H.perm (.swap _ _ _))).mono ?_
      clear H
      rintro e w2 ⟨v2, rfl, H⟩
      obtain ⟨a2, c2, rfl, hd1, hd2⟩ := RowT.form0 (H.ok _ List.mem_cons_self)
      go_wp2_with (first | go_skip | (first | ((with_reducible show wpList _ _ _ (_ :: _) _ _); (with_reducible apply wpl_storeIH); (· exact cell_ofrs); (· rfl); (· rfl); (· rfl); (· exact H); (· (repeat (first | (with_reducible exact List.mem_cons_self) | with_reducible apply List.mem_cons_of_mem))); (· (simp only [bkb_sz, Nat.reduceLT]; done)); (· (with_reducible first | exact bkb_s0 .. | exact bkb_s1 ..)); (· (repeat (first | (with_reducible exact Repl.here) | with_reducible apply Repl.there))); (clear H; intro _ H); (simp only [Act.put, List.setIfInBounds_toArray, List.set_cons_zero, List.set_cons_succ])) | ((with_reducible show wpList _ _ _ (_ :: _) _ _); (with_reducible apply wpl_storeBH); (· exact cell_ofrs); (· rfl); (· rfl); (· rfl); (· exact H); (· (repeat (first | (with_reducible exact List.mem_cons_self) | with_reducible apply List.mem_cons_of_mem))); (· (simp only [bkb_sz, Nat.reduceLT]; done)); (· (with_reducible first | exact bkb_s0 .. | exact bkb_s1 ..)); (· (repeat (first | (with_reducible exact Repl.here) | with_reducible apply Repl.there))); (clear H; intro _ H); (simp only [Act.put, List.setIfInBounds_toArray, List.set_cons_zero, List.set_cons_succ])) | ((with_reducible show wpList _ _ _ (_ :: _) _ _); (with_reducible apply wpl_storeSH); (· exact cell_ofrs); (· rfl); (· rfl); (· rfl); (· exact H); (· (repeat (first | (with_reducible exact List.mem_cons_self) | with_reducible apply List.mem_cons_of_mem))); (· (simp only [bkb_sz, Nat.reduceLT]; done)); (· (with_reducible first | exact bkb_s0 .. | exact bkb_s1 ..)); (· (repeat (first | (with_reducible exact Repl.here) | with_reducible apply Repl.there))); (clear H; intro _ H); (simp only [Act.put, List.setIfInBounds_toArray, List.set_cons_zero, List.set_cons_succ])) | ((with_reducible show wpList _ _ _ (_ :: _) _ _); (with_reducible apply wpl_storePH); (· exact cell_ofrs); (· rfl); (· rfl); (· rfl); (· exact H); (· (repeat (first | (with_reducible exact List.mem_cons_self) | with_reducible apply List.mem_cons_of_mem))); (· (simp only [bkb_sz, Nat.reduceLT]; done)); (· (with_reducible first | exact bkb_s0 .. | exact bkb_s1 ..)); (· (repeat (first | (with_reducible exact Repl.here) | with_reducible apply Repl.there))); (clear H; intro _ H); (simp only [Act.put, List.setIfInBounds_toArray, List.set_cons_zero, List.set_cons_succ]))))
      go_ret2
      refine ⟨.slice a2 (n - 1) c2, rfl, ?_⟩
      show Heap W (BkB p _ _ :: OfT _ (B.L.eraseIdx k).length _ :: l) _
      rw [HE.out]
      exact H.perm (.swap _ _ _)
    · have d1 : (o.ow == ow) = false := by simpa using ho
      have d2 : (o.ow != ow) = true := by simp [ho]
      have e1 : cancelE B ow s = 15 := by unfold cancelE; rw [hf]; simp [ho]
      have e2 : cancelN B ow s = 0 := by unfold cancelN; rw [hf]; simp [ho]
      have e3 : cancelS B ow s = B := by unfold cancelS; rw [e1]; rfl
      rw [e1, e2, e3]
      have HF := Lib.hid (⟨hf, hi, hg, e1, e2, e3⟩ : _ ∧ _ ∧ _ ∧ _ ∧ _ ∧ _)
      clear hf hi hg e1 e2 e3 ho Rw
      generalize iO B.L s = k at *
      generalize hn : B.L.length = n at *
      go_enter Try.func59, Try.ntmps59
      go_wp2_with (first
        | go_skip
        | ((with_reducible refine AnsH.call (by assumption) H ?_); clear H; intro _ H)
        | ((with_reducible show wpList _ _ _ (_ :: _) _ _); (with_reducible apply wpl_loadCH); (· exact cell_ofrs); (· rfl); (· rfl); (· exact H); (· exact List.mem_cons_self); (· exact bkb_g0 ..); (simp only [Act.put, List.setIfInBounds_toArray, List.set_cons_zero, List.set_cons_succ]))
        | ((with_reducible show wpList _ _ _ (_ :: _) _ _); (with_reducible apply wpl_loadCell cell_party); (· rfl); (· rfl); (· exact rd_ofr (H.rowRd (List.mem_cons_of_mem _ List.mem_cons_self)) HF.out.2.2.1 (j := 1) rfl); (simp only [Act.put, List.setIfInBounds_toArray, List.set_cons_zero, List.set_cons_succ]))
        | ((with_reducible show wpList _ _ _ (_ :: _) _ _); (with_reducible apply wpl_loadCell cell_i64); (· rfl); (· rfl); (· exact rd_ofr (H.rowRd (List.mem_cons_of_mem _ List.mem_cons_self)) HF.out.2.2.1 (j := 4) rfl); (simp only [Act.put, List.setIfInBounds_toArray, List.set_cons_zero, List.set_cons_succ])))
      go_ret2
      exact ⟨_, rfl, H⟩
end
end Go.Proofs.Ytacglcpjbepfnaa
