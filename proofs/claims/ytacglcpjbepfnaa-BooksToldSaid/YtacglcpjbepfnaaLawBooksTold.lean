/- The walk of BooksTold. -/
import Derived.Test.YtacglcpjbepfnaaBok12
import Derived.Test.YtacglcpjbepfnaaLawBooksOnce
namespace Go.Proofs.Ytacglcpjbepfnaa
open Go.RowKit
set_option linter.unusedSimpArgs false
set_option linter.unusedVariables false
set_option maxRecDepth 100000
theorem AnsH.at5 {W w : World} {l : List Thing} {f : FuncId} {args : Array Value} {v : Value} (H : Heap W l w) (h : AnsH W l f args v) : AnsH W l f args v := h
theorem ofE_of {B : Bok} (G : B.Good) : ofE B.L B.nx = 0 := by
  have h1 := G.few
  rw [ofE_ok, if_neg (by omega), if_pos (okO_iff.2 ⟨fun o ho => by have := G.ok o ho; exact ⟨this.1, by omega, this.2.2⟩, G.ord, by have := G.nx; omega⟩)]
theorem ofE_small {L : List Ofr} {s : Int} (hf : L.length ≤ 32) (h : ∃ o ∈ L, s ≤ o.sq) : ofE L s = 1 := by
  rw [ofE_ok, if_neg (by omega), if_neg]
  intro h2
  obtain ⟨o, ho, hs⟩ := h
  have := ((okO_iff.1 h2).1 o ho).2.2
  omega
theorem ofE_twice {L : List Ofr} {k : Nat} {nx : Int} (hk : k < L.length) : ofE (L.take (k + 1) ++ L.drop k) nx = 1 ∨ (32 < (L.take (k + 1) ++ L.drop k).length ∧ ofE (L.take (k + 1) ++ L.drop k) nx = 9) := by
  by_cases hb : 32 < (L.take (k + 1) ++ L.drop k).length
  · exact .inr ⟨hb, by rw [ofE_ok, if_pos hb]⟩
  · refine .inl ?_
    rw [ofE_ok, if_neg hb, if_neg]
    intro h2
    have h3 := (List.pairwise_append.1 (okO_iff.1 h2).2.1).2.2 L[k] (by rw [List.take_add_one, List.getElem?_eq_getElem hk, Option.toList_some]; exact List.mem_append_right _ (List.mem_singleton.2 rfl)) L[k] (by rw [List.drop_eq_getElem_cons hk]; exact List.mem_cons_self)
    omega
theorem Bok.Good.oks {B : Bok} (G : B.Good) (h : B.nx ≤ 18446744073709551615) : ∀ o ∈ B.L, OfrOk o := fun o ho => by
  obtain ⟨h1, h2, h3⟩ := G.ok o ho
  obtain ⟨t1, t2, t3, t4, t5, t6⟩ := mayO_iff.1 h1
  have tf := may_facts t6
  exact ⟨by omega, by omega, by omega, by omega, by omega, by omega, by omega⟩
section
variable {ops : Array Oper} {rest : List Oper} {a : Act} {w W : World} {l : List Thing}
theorem wpQ_cutFromO {t e size bytes : Nat} {z : Value} (T : SlTy Try.prog t e size bytes z) {dst : Option Tmp} {ty : TypeId} {pos : String} {after : Array Edge} {guard : Option (Nat × Bool)} {x y : Operand} {K : Act → Prop} {H : Heap W l w} (hw : Region.wanted ⟨dst, .slice t x (some y) none none, ty, pos, after, guard⟩ (yielded ops a.tmps) = true)
    {g o0 n c lo : Nat} {v : Int} {k : IntKind} (hx : a.eval x = .slice (some ⟨g, o0, none⟩) n c) (hy : a.eval y = .int k v) (hv : v = (lo : Int)) (hh : lo < n) (hc : n ≤ c)
    (h : wpQuiet Try.prog ops (fun w' => ∃ d, w' = H.any d) K rest (a.put dst (.slice (some ⟨g, o0 + lo * size, none⟩) (n - lo) (c - lo)))) : wpQuiet Try.prog ops (fun w' => ∃ d, w' = H.any d) K (⟨dst, .slice t x (some y) none none, ty, pos, after, guard⟩ :: rest) a := by
  subst hv
  refine BigFrame.wpQuiet_want hw fun K hK => ⟨_, ?_, hK _ h⟩
  rintro _ ⟨d, rfl⟩
  have hr := run_cutFrom (P := Try.prog) T (some ⟨g, o0, none⟩) n c lo k (by omega) (H.any d)
  have hcut : cutA (some ⟨g, o0, none⟩) c lo size = some ⟨g, o0 + lo * size, none⟩ := by
    unfold Proofs.Ytacglcpjbepfnaa.cutA
    rw [if_neg (by omega)]
    simp [addr_add]
  rw [hcut] at hr
  have hs : (Instr.sliceAt t (.slice (some ⟨g, o0, none⟩) n c) (some (.int k (lo : Int))) none none).run Try.prog (H.any d) = .ok (.slice (some ⟨g, o0 + lo * size, none⟩) (n - lo) (c - lo)) (H.any d) := by
    unfold Instr.sliceAt
    rw [Sem.run_bind, run_underlying T.und]
    simp only [Result.andThen_ok]
    exact hr
  unfold Oper.quietAt execOp
  simp only [hx, Option.map_some, hy, Option.map_none, Sem.run_bind, hs]
  exact ⟨rfl, rfl⟩
end
theorem Rd.take4 {w : World} {a : Option Addr} {xs : List Value} (h : Rd w a xs) (j : Nat) : Rd w a (xs.take j) := Rd.take h j
theorem Rd.drop4 {w : World} {g o : Nat} {xs : List Value} (h : Rd w (some ⟨g, o, none⟩) xs) (j : Nat) : Rd w (some ⟨g, o + j, none⟩) (xs.drop j) := fun i hi => by
  have hi' : j + i < xs.length := by simp at hi; omega
  obtain ⟨b, o', he, hc⟩ := h (j + i) hi'
  cases he
  exact ⟨g, o + j, rfl, by rw [Nat.add_assoc, hc]; simp⟩
section
variable {W w : World} {l : List Thing}
set_option maxHeartbeats 8000000
theorem booksTold_walk (ea : Option Addr) (n0 ec : Nat) (F : List OAct) (s : Nat) (hs : s ≤ 255) (hl : F.length = n0) (hF : ∀ x ∈ F, OActOk x) (R : Rd w ea (oactL F)) :
    Calls Try.prog 13 #[.slice ea n0 ec, .int .u8 (s : Int)] w fun e w' => e = .returned (.bool true) ∧ Below w.heap.size w w' := by
  have H := Heap.start w
  by_cases hn : n0 ≤ 120
  · have d1 : decide ((n0 : Int) > 120) = false := decide_eq_false (by omega)
    have d2 : decide (120 < (n0 : Int)) = false := decide_eq_false (by omega)
    have HR := Lib.hid (show ∀ l' w', Heap w l' w' → Rd w' ea (oactL F) from fun l' w' H' => H'.rd R)
    have HL := Lib.hid hl
    have HF := Lib.hid hF
    have HG := Lib.hid (madeB_good F)
    clear hl hF R
    go_enter Try.func13, Try.ntmps13
    go_wp2_with (go_skip)
    refine (made4_H ea n0 ec F HL.out hn HF.out (fun l' w' _ H' => HR.out l' w' H') H).mono ?_
    clear H
    rintro e w1 ⟨p, v, rfl, H⟩
    generalize madeB F = B at *
    go_wp2_with (go_skip)
    refine (all_H (p := p) (L := B.L) List.mem_cons_self (List.mem_cons_of_mem _ List.mem_cons_self) (by have := HG.out.nx; omega) rfl (by have := HG.out.few; omega) H).mono ?_
    clear H
    rintro e w2 ⟨v2, rfl, H⟩
    have hnx := HG.out.nx.1
    have hnx2 := HG.out.nx.2
    have hfew := HG.out.few
    have HE := Lib.hid (ofE_of HG.out)
    have HKS := Lib.hid (HG.out.oks hnx2)
    clear HG
    obtain ⟨L, nx⟩ := B
    simp only at *
    generalize hn1 : L.length = n at *
    obtain ⟨a2, c2, rfl, hc1, hc2⟩ := OwnT.formO (H.ok _ List.mem_cons_self)
    have HN := Lib.hid hn1
    clear hn1
    have N1 := AnsH.at5 H (next_H (p := p) (v := v) (nx := nx) (by (repeat (first | (with_reducible exact List.mem_cons_self) | with_reducible apply List.mem_cons_of_mem))) (by omega))
    go_wp2_with (first | go_skip | ((with_reducible refine AnsH.call (by assumption) H ?_); clear H; intro _ H))
    clear N1
    refine (of4_H a2 n c2 L nx HN.out (by omega) HKS.out (fun l' w' hh H' => H'.ownRd (hh _ List.mem_cons_self)) H).mono ?_
    clear H
    rintro e w3 (⟨_, q, v3, rfl, H⟩ | ⟨h, _⟩)
    · go_wp2_with (go_skip)
      refine (all_H (p := q) (v := v3) (nx := nx) (L := L) (n := n) (by (repeat (first | (with_reducible exact List.mem_cons_self) | with_reducible apply List.mem_cons_of_mem))) (by (repeat (first | (with_reducible exact List.mem_cons_self) | with_reducible apply List.mem_cons_of_mem))) (by omega) HN.out (by omega) H).mono ?_
      clear H
      rintro e w4 ⟨v4, rfl, H⟩
      obtain ⟨a4, c4, rfl, _, _⟩ := OwnT.formO (H.ok _ List.mem_cons_self)
      go_wp2_with (go_skip)
      refine (sameOffers_P (W := w) (L := L) a4 a2 n c4 c2 HN.out (by omega) (fun w' H' => H'.ownRd (by (repeat (first | (with_reducible exact List.mem_cons_self) | with_reducible apply List.mem_cons_of_mem)))) (fun w' H' => H'.ownRd (by (repeat (first | (with_reducible exact List.mem_cons_self) | with_reducible apply List.mem_cons_of_mem)) : OwO (.slice a2 n c2) n L ∈ _)) _ H).mono ?_
      clear H
      rintro e w5 ⟨rfl, H⟩
      have N1 := AnsH.at5 H (next_H (p := p) (v := v) (nx := nx) (by (repeat (first | (with_reducible exact List.mem_cons_self) | with_reducible apply List.mem_cons_of_mem))) (by omega))
      have N2 := AnsH.at5 H (next_H (p := q) (v := v3) (nx := nx) (by (repeat (first | (with_reducible exact List.mem_cons_self) | with_reducible apply List.mem_cons_of_mem))) (by omega))
      by_cases hz : n = 0
      · have e1 : ((n : Int) == 0) = true := by simp; omega
        have e9 : ofE [] 0 = 1 := by decide
        go_wp2_with (first | go_skip | ((with_reducible refine AnsH.call (by assumption) H ?_); clear H; intro _ H))
        refine (of4_H none 0 0 [] 0 rfl (by omega) (by simp) (fun l' w' hh H' => Rd.nil _ _) H).mono ?_
        clear H
        rintro e w6 (⟨h, _⟩ | ⟨_, rfl, H⟩)
        · rw [e9] at h; cases h
        · rw [e9]
          go_wp2_with (go_skip)
          refine (lives04_H H).mono ?_
          clear H
          rintro e w7 ⟨rfl, H⟩
          go_wp2_with (go_skip)
          go_ret
          exact ⟨rfl, H.low⟩
      · have e1 : ((n : Int) == 0) = false := by simp; omega
        obtain ⟨n', rfl⟩ : ∃ n', n = n' + 1 := ⟨n - 1, by omega⟩
        have hsub : wrap64 (((n' + 1 : Nat) : Int) - 1) = (n' : Int) := by unfold wrap64; omega
        have hsn : Int.tmod (s : Int) ((n' + 1 : Nat) : Int) = ((s % (n' + 1) : Nat) : Int) := rfl
        have hsn2 : (s : Int) % ((n' : Int) + 1) = ((s % (n' + 1) : Nat) : Int) := rfl
        have hsn3 : (s : Int) % ((n' + 1 : Nat) : Int) = ((s % (n' + 1) : Nat) : Int) := rfl
        have hk : s % (n' + 1) < n' + 1 := Nat.mod_lt _ (by omega)
        generalize s % (n' + 1) = k at *
        have hlast : n' < L.length := by rw [HN.out]; omega
        have hkX : k < L.length := by rw [HN.out]; exact hk
        obtain ⟨y, hy⟩ : ∃ y, L[n']? = some y := ⟨L[n'], List.getElem?_eq_getElem hlast⟩
        have HY := Lib.hid hy
        have hym := List.mem_of_getElem? hy
        have HE1 := Lib.hid (ofE_small (s := y.sq) (by rw [HN.out]; omega : L.length ≤ 32) ⟨y, hym, by omega⟩)
        have HE2 := Lib.hid (ofE_twice (nx := nx) hkX)
        have hk1 : wrap64 ((k : Int) + 1) = (k : Int) + 1 := IntWalk.wrap64_in _ ⟨by omega, by omega⟩
        have HXK := Lib.hid hkX
        clear hy hym hkX hlast hz
        obtain ⟨g2, o2, rfl, _⟩ := (H.ownRd (by (repeat (first | (with_reducible exact List.mem_cons_self) | with_reducible apply List.mem_cons_of_mem)) : OwO (.slice a2 (n' + 1) c2) (n' + 1) L ∈ _)).lt (by rw [ofrL_len, HN.out]; omega)
        go_wp2_with (first
          | go_skip
          | ((with_reducible refine AnsH.call (by assumption) H ?_); clear H; intro _ H)
          | ((with_reducible show wpList _ _ _ (_ :: _) _ _); (with_reducible apply wpl_loadCell cell_u64); (· rfl); (· rfl); (· exact rd_ofr (H.ownRd (by (repeat (first | (with_reducible exact List.mem_cons_self) | with_reducible apply List.mem_cons_of_mem)) : OwO (.slice (some ⟨g2, o2, none⟩) (n' + 1) c2) (n' + 1) L ∈ _)) HY.out (j := 0) rfl); (simp only [Act.put, List.setIfInBounds_toArray, List.set_cons_zero, List.set_cons_succ])))
        refine (of4_H (some ⟨g2, o2, none⟩) (n' + 1) c2 L y.sq HN.out (by omega) HKS.out (fun l' w' hh H' => H'.ownRd (hh _ (by (repeat (first | (with_reducible exact List.mem_cons_self) | with_reducible apply List.mem_cons_of_mem)) : OwO (.slice (some ⟨g2, o2, none⟩) (n' + 1) c2) (n' + 1) L ∈ _))) H).mono ?_
        clear H N1 N2
        rintro e w6 (⟨h, _⟩ | ⟨_, rfl, H⟩)
        · rw [HE1.out] at h; cases h
        rw [HE1.out]
        replace H := H.pull (.there (.there (.there .here)))
        replace H := ((H.drop (.there .here)).drop (.there .here)).drop (.there .here)
        replace H := H.nilRow 83 7
        have HSN := Lib.hid hsn
        clear hsub
        go_wp2_with (go_skip)
        rw [hsn2]
        clear hsn hsn2 hsn3 HSN
        refine wp_region_O [4, 8] [0, 1, 2, 3, 5, 6, 7, 4, 8, 9] (fun l0 => ∃ pre, l0 = pre ++ [OwO (.slice (some ⟨g2, o2, none⟩) (n' + 1) c2) (n' + 1) L, BkB p v nx, OfT v (n' + 1) L]) H ⟨[_], rfl⟩ (by kernel_rfl) (by kernel_rfl) ?_
        iterate 3 (apply wpO_step; (· rfl); (· rfl); (· rfl); (· exact Nat.le_of_ble_eq_true rfl); (· rintro l0 ⟨pre, rfl⟩ w0 H0; (first | go_big_quiet_skip | fail | go_big_quiet_step (fail)); (refine wpQuiet_nil ?_); (simp only [Array.getD_eq_getD_getElem?, List.getElem?_toArray, List.getElem?_cons_succ, List.getElem?_cons_zero, Option.getD_some]; rfl)); (simp only [Act.put, List.setIfInBounds_toArray, List.set_cons_zero, List.set_cons_succ]))
        (apply wpO_step; (· rfl); (· rfl); (· rfl); (· exact Nat.le_of_ble_eq_true rfl); (· rintro l0 ⟨pre, rfl⟩ w0 H0; (first | go_big_quiet_skip | ((refine wpQ_cutTo slO (hi := k + 1) rfl rfl rfl ?_ ?_ ?_); (· omega); (· omega); (simp only [Act.put, List.setIfInBounds_toArray, List.set_cons_zero, List.set_cons_succ])) | go_big_quiet_step (fail)); (refine wpQuiet_nil ?_); (simp only [Array.getD_eq_getD_getElem?, List.getElem?_toArray, List.getElem?_cons_succ, List.getElem?_cons_zero, Option.getD_some]; rfl)); (simp only [Act.put, List.setIfInBounds_toArray, List.set_cons_zero, List.set_cons_succ]))
        iterate 2 (apply wpO_step; (· rfl); (· rfl); (· rfl); (· exact Nat.le_of_ble_eq_true rfl); (· rintro l0 ⟨pre, rfl⟩ w0 H0; (first | go_big_quiet_skip | fail | go_big_quiet_step (fail)); (refine wpQuiet_nil ?_); (simp only [Array.getD_eq_getD_getElem?, List.getElem?_toArray, List.getElem?_cons_succ, List.getElem?_cons_zero, Option.getD_some]; rfl)); (simp only [Act.put, List.setIfInBounds_toArray, List.set_cons_zero, List.set_cons_succ]))
        (apply wpO_step; (· rfl); (· rfl); (· rfl); (· exact Nat.le_of_ble_eq_true rfl); (· rintro l0 ⟨pre, rfl⟩ w0 H0; (first | go_big_quiet_skip | ((refine wpQ_cutFromO slO (lo := k) rfl rfl rfl ?_ ?_ ?_ ?_); (· rfl); (· omega); (· omega); (simp only [Act.put, List.setIfInBounds_toArray, List.set_cons_zero, List.set_cons_succ])) | go_big_quiet_step (fail)); (refine wpQuiet_nil ?_); (simp only [Array.getD_eq_getD_getElem?, List.getElem?_toArray, List.getElem?_cons_succ, List.getElem?_cons_zero, Option.getD_some]; rfl)); (simp only [Act.put, List.setIfInBounds_toArray, List.set_cons_zero, List.set_cons_succ]))
        refine wpO_appendR slO rfl rfl rfl rfl (news := (ofrL L).take ((k + 1) * 7)) (fun w' H' => (H'.ownRd (List.mem_cons_of_mem _ List.mem_cons_self)).take4 _) (by rw [List.length_take, ofrL_len]; have := HN.out; omega) (fun u hu => ofrL_ones L u (List.mem_of_mem_take hu)) (by unfold maxLen; omega) (by omega) (fun v => ⟨[_], rfl⟩) ?_
        intro v7
        (simp only [Act.put, List.setIfInBounds_toArray, List.set_cons_zero, List.set_cons_succ])
        refine wpO_appendR slO rfl rfl rfl rfl (news := (ofrL L).drop (k * 7)) (fun w' H' => (H'.ownRd (List.mem_cons_of_mem _ List.mem_cons_self)).drop4 (k * 7)) (by rw [List.length_drop, ofrL_len]; have := HN.out; omega) (fun u hu => ofrL_ones L u (List.mem_of_mem_drop hu)) (by unfold maxLen; omega) (by omega) (fun v => ⟨[_], rfl⟩) ?_
        intro v8
        (simp only [Act.put, List.setIfInBounds_toArray, List.set_cons_zero, List.set_cons_succ])
        (apply wpO_step; (· rfl); (· rfl); (· rfl); (· exact Nat.le_of_ble_eq_true rfl); (· rintro l0 ⟨pre, rfl⟩ w0 H0; (first | go_big_quiet_skip | fail | go_big_quiet_step (fail)); (refine wpQuiet_nil ?_); (simp only [Array.getD_eq_getD_getElem?, List.getElem?_toArray, List.getElem?_cons_succ, List.getElem?_cons_zero, Option.getD_some]; rfl)); (simp only [Act.put, List.setIfInBounds_toArray, List.set_cons_zero, List.set_cons_succ]))
        (refine wpO_nil ?_; clear H; intro _ H)
        rw [List.nil_append, ofrL_take L (k + 1) (by have := HXK.out; omega), ofrL_drop L k (by have := HXK.out; omega), ← ofrL_app, show 0 + (k + 1) + (n' + 1 - k) = n' + 1 + 1 by omega] at H
        obtain ⟨ta, tc, rfl, _, _⟩ := RowT.form0 (H.ok _ List.mem_cons_self)
        have HTL := Lib.hid (show (L.take (k + 1) ++ L.drop k).length = n' + 1 + 1 by rw [List.length_append, List.length_take, List.length_drop]; have := HN.out; omega)
        have HTA := Lib.hid (show ∀ y ∈ L.take (k + 1) ++ L.drop k, OfrOk y from fun y hy => by
          rcases List.mem_append.1 hy with hy | hy
          · exact HKS.out y (List.mem_of_mem_take hy)
          · exact HKS.out y (List.mem_of_mem_drop hy))
        generalize L.take (k + 1) ++ L.drop k = T at *
        clear e1 hk1
        have N1 := AnsH.at5 H (next_H (p := p) (v := v) (nx := nx) (by (repeat (first | (with_reducible exact List.mem_cons_self) | with_reducible apply List.mem_cons_of_mem))) (by omega))
        go_wp2_with (first | go_skip | ((with_reducible refine AnsH.call (by assumption) H ?_); clear H; intro _ H))
        clear N1
        refine (of4_H ta (n' + 1 + 1) tc T nx HTL.out (by omega) HTA.out (fun l' w' hh H' => H'.rowRd (hh _ List.mem_cons_self)) H).mono ?_
        clear H
        have hor := HE2.out
        rw [HTL.out] at hor
        rintro e w8 (⟨h, _⟩ | ⟨_, rfl, H⟩)
        · rcases hor with h2 | ⟨_, h2⟩ <;> rw [h2] at h <;> cases h
        rcases hor with h2 | ⟨h3, h2⟩
        · rw [h2]
          clear h2
          go_wp2_with (go_skip)
          refine (lives04_H H).mono ?_
          clear H
          rintro e w9 ⟨rfl, H⟩
          go_wp2_with (go_skip)
          go_ret
          exact ⟨rfl, H.low⟩
        · rw [h2]
          obtain rfl : n' = 31 := by omega
          clear h2 h3
          go_wp2_with (go_skip)
          refine (lives04_H H).mono ?_
          clear H
          rintro e w9 ⟨rfl, H⟩
          go_wp2_with (go_skip)
          go_ret
          exact ⟨rfl, H.low⟩
    · exact absurd HE.out h
  · have d1 : decide ((n0 : Int) > 120) = true := decide_eq_true (by omega)
    have d2 : decide (120 < (n0 : Int)) = true := decide_eq_true (by omega)
    go_enter Try.func13, Try.ntmps13
    go_wp2_with (go_skip)
    refine (lives04_H H).mono ?_
    clear H
    rintro e w3 ⟨rfl, H⟩
    go_wp2_with (go_skip)
    go_ret
    exact ⟨rfl, H.low⟩
theorem booksTold_law (v0 : Value) (s : Int) (w : World) (o0 : OActsV w v0) (h0 : 0 ≤ s) (h1 : s ≤ 255) : Calls Try.prog 13 #[v0, .int .u8 s] w fun e w' => e = .returned (.bool true) ∧ Below w.heap.size w w' := by
  obtain ⟨a, n, c, F, rfl, A⟩ := o0
  obtain ⟨s, rfl⟩ : ∃ k : Nat, s = k := ⟨s.toNat, by omega⟩
  exact booksTold_walk a n c F s (by omega) A.len A.ok A.rd
end
end Go.Proofs.Ytacglcpjbepfnaa
