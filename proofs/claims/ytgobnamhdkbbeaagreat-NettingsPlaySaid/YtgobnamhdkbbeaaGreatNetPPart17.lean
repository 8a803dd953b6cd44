/- Part 17 of what ProofNettingsPlay stands on: LawNettingsPlay. -/
import Derived.Test.YtgobnamhdkbbeaaGreatNetPPart16
/- NettingsPlay: its walk. -/
namespace Go.Proofs.YtgobnamhdkbbeaaGreat
open Go.RowKit
set_option linter.unusedSimpArgs false
set_option linter.unusedVariables false
theorem AnsH.on {W w : World} {l : List Thing} {f : FuncId} {args : Array Value} {v : Value} (_ : Heap W l w) (h : AnsH W l f args v) : AnsH W l f args v := h
structure PlyR (W : World) (p q rp n : Nat) (i : Value) (wr : World) : Prop where
  out : ∃ (k : Nat) (S : Lgr), k ≤ n ∧ i = .int .i64 (k : Int) ∧ S.Good ∧ DuoH W [] p q rp S wr
set_option maxRecDepth 100000
set_option maxHeartbeats 8000000
theorem nettingsPlay_great1 (w : World) (ea eb : Option Addr) (an ac bn bc : Nat) (hn : 120 < an) (hm : an ≤ maxLen) :
    Calls Tryz.prog 3 #[.slice ea an ac, .slice eb bn bc] w fun e w' => e = .returned (.bool true) ∧ Below w.heap.size w w' := by
  have H := Heap.start w
  have hcnt : 120 < (an : Int) := by omega
  unfold maxLen at hm
  go_enter Tryz.func3, Tryz.ntmps3
  go_wp2_with (first | go_skip)
  refine (lives13_H H).mono ?_
  clear H
  rintro e w7 ⟨rfl, H⟩
  go_wp2_with (go_skip)
  go_ret
  exact ⟨rfl, H.low⟩
theorem nettingsPlay_great2 (w : World) (ea eb : Option Addr) (an ac bn bc : Nat) (hn : an ≤ 120) (hb : 5 < bn) (hm : bn ≤ maxLen) :
    Calls Tryz.prog 3 #[.slice ea an ac, .slice eb bn bc] w fun e w' => e = .returned (.bool true) ∧ Below w.heap.size w w' := by
  have H := Heap.start w
  have hcnt : ¬ (120 < (an : Int)) := by omega
  have hcnb : 5 < (bn : Int) := by omega
  unfold maxLen at hm
  go_enter Tryz.func3, Tryz.ntmps3
  go_wp2_with (first | go_skip)
  refine (lives13_H H).mono ?_
  clear H
  rintro e w7 ⟨rfl, H⟩
  go_wp2_with (go_skip)
  go_ret
  exact ⟨rfl, H.low⟩
theorem nettingsPlay_main (w : World) (ea eb : Option Addr) (an ac bn bc : Nat) (F : List LAct) (G : List Ask13) (hl : F.length = an) (hn : an ≤ 120) (hF : ∀ x ∈ F, ActOk x) (R : Rd w ea (actL F)) (gl : G.length = bn) (gn : bn ≤ 5) (hG : ∀ x ∈ G, AskNOk x) (RB : Rd w eb (askNL G)) :
    Calls Tryz.prog 3 #[.slice ea an ac, .slice eb bn bc] w fun e w' => e = .returned (.bool true) ∧ Below w.heap.size w w' := by
  have H := Heap.start w
  have hcnt : ¬ (120 < (an : Int)) := by omega
  have hcnb : ¬ (5 < (bn : Int)) := by omega
  have HR := Lib.hid (show ∀ (l' : List Thing) w', Heap w l' w' → Rd w' ea (actL F) from fun l' w' H' => R.below H'.low)
  have HRB := Lib.hid (show ∀ (l' : List Thing) w', Heap w l' w' → Rd w' eb (askNL G) from fun l' w' H' => RB.below H'.low)
  have HL := Lib.hid hl
  have HLB := Lib.hid gl
  have HF := Lib.hid hF
  have HGA := Lib.hid hG
  clear R RB hl gl hF hG
  go_enter Tryz.func3, Tryz.ntmps3
  go_wp2_with (first | go_skip)
  refine (lnew_H H).mono ?_
  clear H
  rintro e w1 ⟨p, q, rfl, H⟩
  go_wp2_with (go_skip)
  refine (rnewL_H H).mono ?_
  clear H
  rintro e w2 ⟨rp, rfl, HH⟩
  obtain ⟨a0, n0, c0, b0, m0, d0, hl1, hl2, _, H⟩ := HH.open3
  have H0 : DuoH w [] p q rp Lgr.new w2 := ⟨a0, n0, c0, b0, m0, d0, hl1, hl2, H.top2 (.there (.there (.there .here))) (.there (.there (.there .here)))⟩
  clear H HH hl1 hl2
  have H := Heap.start w
  go_wp2_with (go_skip)
  clear H
  go_loopw [7] (fun i wr => PlyR w p q rp an i wr) (fun i _ => an - (intOf i).toNat)
  case atStart => exact ⟨0, Lgr.new, Nat.zero_le _, rfl, Lgr.new_good, H0⟩
  case round =>
    obtain ⟨k, S, hk, rfl, hGS, HD⟩ := hrel.out
    clear H0 hrel
    have HG := Lib.hid hGS
    clear hGS
    by_cases hlt : k < an
    · obtain ⟨ra, rn, rc, rb, rm, rd, hl1, hl2, H⟩ := HD
      have HLR := Lib.hid (And.intro hl1 hl2)
      clear hl1 hl2
      have hkF : k < F.length := by rw [HL.out]; exact hlt
      have hlen : k * 5 + 5 ≤ (actL F).length := by rw [actL_len]; omega
      have hrow := actL_row F k hkF
      have hok := HF.out F[k] (List.getElem_mem hkF)
      generalize F[k] = x at *
      obtain ⟨ba, oa, rfl, _⟩ := (HR.out _ _ H).lt (by omega)
      have HRd := Lib.hid (show Rd wr (some ⟨ba, oa, none⟩) (actL F) from HR.out _ _ H)
      have DO := Lib.hid (fun (l' : List Thing) (w' : World) (h : DuoH w l' p q rp S w') => does_H x hok HG.out h)
      have HG2 := Lib.hid (doesS_good HG.out x)
      clear hkF hok
      go_wp2_with (first
        | go_skip
        | ((with_reducible show wpList _ _ _ (_ :: _) _ _); (with_reducible apply wpl_loadRdR row_act); (· rfl); (· rfl); (· exact HRd.out); (· rfl); (· exact hlen); (· decide); (· exact hrow); (simp only [Act.put, List.setIfInBounds_toArray, List.set_cons_zero, List.set_cons_succ])))
      refine (DO.out [] _ ⟨ra, rn, rc, rb, rm, rd, HLR.out.1, HLR.out.2, H⟩).mono ?_
      clear H DO HRd
      rintro e w3 ⟨rfl, HD⟩
      have H := Heap.start w
      go_wp2_with (go_skip)
      clear H
      refine ⟨⟨k + 1, doesS S x, by omega, by go_num, HG2.out, HD⟩, ?measure1⟩
      case measure1 => simp [intOf]; omega
    · obtain rfl : k = an := by omega
      go_wp2_with (go_skip)
      have H0 := HD
      clear HD
      go_loopw [8] (fun i wr => PlyR w p q rp bn i wr) (fun i _ => bn - (intOf i).toNat)
      case atStart => exact ⟨0, S, Nat.zero_le _, rfl, HG.out, H0⟩
      case round =>
        clear HG H0
        clear S
        obtain ⟨j, S, hj, rfl, hGS, HD⟩ := hrel.out
        clear hrel
        have HG := Lib.hid hGS
        clear hGS
        by_cases hjl : j < bn
        · obtain ⟨ra, rn, rc, rb, rm, rd, hl1, hl2, H⟩ := HD
          have HLR := Lib.hid (And.intro hl1 hl2)
          clear hl1 hl2
          have hkG : j < G.length := by rw [HLB.out]; exact hjl
          have hlen : j * 2 + 2 ≤ (askNL G).length := by rw [askNL_len]; omega
          have hrow := askNL_row G j hkG
          have hok := HGA.out G[j] (List.getElem_mem hkG)
          generalize G[j] = x at *
          obtain ⟨ba, oa, rfl, _⟩ := (HRB.out _ _ H).lt (by omega)
          have HRd := Lib.hid (show Rd wr (some ⟨ba, oa, none⟩) (askNL G) from HRB.out _ _ H)
          obtain ⟨c, qt⟩ := x
          obtain ⟨o0, o1⟩ := hok
          simp only at o0 o1 hrow
          have HO := Lib.hid o1
          clear hkG o1
          go_wp2_with (first
            | go_skip
            | ((with_reducible show wpList _ _ _ (_ :: _) _ _); (with_reducible apply wpl_loadRdR row_ask13); (· rfl); (· rfl); (· exact HRd.out); (· rfl); (· exact hlen); (· decide); (· exact hrow); (simp only [Act.put, List.setIfInBounds_toArray, List.set_cons_zero, List.set_cons_succ]))
            | ((with_reducible show wpList _ _ _ (_ :: _) _ _); (with_reducible apply wpl_allocRH row_ask13); (· rfl); (· exact H); (clear H; intro px _ H); (simp only [Act.put, List.setIfInBounds_toArray, List.set_cons_zero, List.set_cons_succ]))
            | ((with_reducible show wpList _ _ _ (_ :: _) _ _); (with_reducible apply wpl_storeRH row_ask13); (· rfl); (· rfl); (· rfl); (· with_reducible exact ask13_cells ..); (· exact H); (· (repeat (first | (with_reducible exact List.mem_cons_self) | with_reducible apply List.mem_cons_of_mem))); (· (simp only [ask13_sz, Nat.reduceAdd, Nat.reduceLeDiff, Nat.le_refl]; done)); (· with_reducible exact ask13_splice ..); (· (repeat (first | (with_reducible exact Repl.here) | with_reducible apply Repl.there))); (clear H; intro _ H); (simp only [Act.put, List.setIfInBounds_toArray, List.set_cons_zero, List.set_cons_succ]))
            | ((with_reducible show wpList _ _ _ (_ :: _) _ _); (with_reducible apply wpl_loadCH); (· first | exact cell_cur | exact cell_i64); (· rfl); (· rfl); (· exact H); (· (repeat (first | (with_reducible exact List.mem_cons_self) | with_reducible apply List.mem_cons_of_mem))); (· (with_reducible first | exact ask13_g0 .. | exact ask13_g1 ..)); (simp only [Act.put, List.setIfInBounds_toArray, List.set_cons_zero, List.set_cons_succ])))
          clear HRd hrow hlen
          have hdf := HG.out.dbt_few c
          refine (debts13_H (p := p) (q := q) (S := S) c o0 HG.out (.there .here) (.there .here) H).mono ?_
          clear H
          rintro e w5 ⟨v1, rfl, H⟩
          obtain ⟨a1, c1, rfl, _, hc1⟩ := OwnT.form0 (H.ok _ List.mem_cons_self)
          go_wp2_with (first | go_skip | ((with_reducible show wpList _ _ _ (_ :: _) _ _); (with_reducible apply wpl_loadCH); (· first | exact cell_cur | exact cell_i64); (· rfl); (· rfl); (· exact H); (· (repeat (first | (with_reducible exact List.mem_cons_self) | with_reducible apply List.mem_cons_of_mem))); (· (with_reducible first | exact ask13_g0 .. | exact ask13_g1 ..)); (simp only [Act.put, List.setIfInBounds_toArray, List.set_cons_zero, List.set_cons_succ])))
          refine (rdebts13_H (p := rp) (S := S) c o0 HG.out ⟨ra, rn, rc, rb, rm, rd, HLR.out.1, HLR.out.2, by (repeat (first | (with_reducible exact List.mem_cons_self) | with_reducible apply List.mem_cons_of_mem)), by (repeat (first | (with_reducible exact List.mem_cons_self) | with_reducible apply List.mem_cons_of_mem)), by (repeat (first | (with_reducible exact List.mem_cons_self) | with_reducible apply List.mem_cons_of_mem))⟩ H).mono ?_
          clear H
          rintro e w6 ⟨v2, rfl, H⟩
          obtain ⟨a2, c2, rfl, _, hc2⟩ := RowT.form0 (H.ok _ List.mem_cons_self)
          have SF := AnsH.on H (sameFlows_P (A := dbtS S.L c) (B := dbtS S.L c) a1 a2 (dbtS S.L c).length (dbtS S.L c).length c1 c2 rfl rfl (by omega) (by omega) (fun w' h => h.ownRd (by (repeat (first | (with_reducible exact List.mem_cons_self) | with_reducible apply List.mem_cons_of_mem)))) (fun w' h => h.rowRd (by (repeat (first | (with_reducible exact List.mem_cons_self) | with_reducible apply List.mem_cons_of_mem)))))
          rw [decide_eq_true rfl] at SF
          go_wp2_with (first
            | go_skip
            | ((with_reducible refine AnsH.call (by assumption) H ?_); clear H; intro _ H)
            | ((with_reducible show wpList _ _ _ (_ :: _) _ _); (with_reducible apply wpl_allocRH row_book); (· rfl); (· exact H); (clear H; intro kb _ H); (simp only [Act.put, List.setIfInBounds_toArray, List.set_cons_zero, List.set_cons_succ]))
            | ((with_reducible show wpList _ _ _ (_ :: _) _ _); (with_reducible apply wpl_storeRH row_book); (· rfl); (· rfl); (· rfl); (· with_reducible exact bookC_cells); (· exact H); (· (repeat (first | (with_reducible exact List.mem_cons_self) | with_reducible apply List.mem_cons_of_mem))); (· (simp only [bookC_sz, Nat.reduceAdd, Nat.reduceLeDiff, Nat.le_refl]; done)); (· with_reducible exact bookC_splice ..); (· (repeat (first | (with_reducible exact Repl.here) | with_reducible apply Repl.there))); (clear H; intro _ H); (simp only [Act.put, List.setIfInBounds_toArray, List.set_cons_zero, List.set_cons_succ])))
          clear SF
          have B := Book.new (H.drop (.there .here))
          clear H
          refine (lay_Fl kb [] a1 (dbtS S.L c).length c1 (by decide) B).mono ?_
          clear B
          rintro e w7 ⟨rfl, p1, B⟩
          obtain ⟨bb, bd, H, hok⟩ := B
          have HK1 := Lib.hid hok
          clear hok
          replace H : Heap w (BkT kb (.slice bb 1 bd) :: PgsT (.slice bb 1 bd) 1 [p1.v] :: p1.t0 :: Cel px (ask13 (c : Int) qt) 35 :: LdC p S.P (some q) :: LdM q S.L :: RefC rp (.slice ra rn rc) (.slice rb rm rd) :: RowT 30 1 (.slice ra rn rc) rn (pI S.P) :: RowT 65 5 (.slice rb rm rd) rm (linL S.L) :: []) w7 := H
          go_wp2_with (first | go_skip | ((with_reducible show wpList _ _ _ (_ :: _) _ _); (with_reducible apply wpl_loadCH); (· first | exact cell_cur | exact cell_i64); (· rfl); (· rfl); (· exact H); (· (repeat (first | (with_reducible exact List.mem_cons_self) | with_reducible apply List.mem_cons_of_mem))); (· (with_reducible first | exact ask13_g0 .. | exact ask13_g1 ..)); (simp only [Act.put, List.setIfInBounds_toArray, List.set_cons_zero, List.set_cons_succ])))
          refine (debts13_H (p := p) (q := q) (S := S) c o0 HG.out (.there (.there (.there (.there .here)))) (.there (.there (.there (.there .here)))) H).mono ?_
          clear H
          rintro e w8 ⟨v3, rfl, H⟩
          obtain ⟨a3, c3, rfl, _, hc3⟩ := OwnT.form0 (H.ok _ List.mem_cons_self)
          have B : Book w (OwnT 53 3 (.slice a3 (dbtS S.L c).length c3) (dbtS S.L c).length (flwL (dbtS S.L c)) :: Cel px (ask13 (c : Int) qt) 35 :: LdC p S.P (some q) :: LdM q S.L :: RefC rp (.slice ra rn rc) (.slice rb rm rd) :: RowT 30 1 (.slice ra rn rc) rn (pI S.P) :: RowT 65 5 (.slice rb rm rd) rm (linL S.L) :: []) kb [p1] w8 :=
            ⟨bb, bd, H.perm ((List.Perm.swap _ _ _).trans (.cons _ ((List.Perm.swap _ _ _).trans (.cons _ (List.Perm.swap _ _ _))))), HK1.out⟩
          clear H HK1
          go_wp2_with (go_skip)
          refine (lay_Fl kb [p1] a3 (dbtS S.L c).length c3 (by simp) B).mono ?_
          clear B
          rintro e w9 ⟨rfl, p2, B⟩
          obtain ⟨bf, bg, H, hok⟩ := B
          have HK2 := Lib.hid hok
          clear hok
          replace H : Heap w (BkT kb (.slice bf 2 bg) :: PgsT (.slice bf 2 bg) 2 [p1.v, p2.v] :: p1.t0 :: p2.t0 :: Cel px (ask13 (c : Int) qt) 35 :: LdC p S.P (some q) :: LdM q S.L :: RefC rp (.slice ra rn rc) (.slice rb rm rd) :: RowT 30 1 (.slice ra rn rc) rn (pI S.P) :: RowT 65 5 (.slice rb rm rd) rm (linL S.L) :: []) w9 := H
          go_wp2_with (first | go_skip | ((with_reducible show wpList _ _ _ (_ :: _) _ _); (with_reducible apply wpl_loadCH); (· first | exact cell_cur | exact cell_i64); (· rfl); (· rfl); (· exact H); (· (repeat (first | (with_reducible exact List.mem_cons_self) | with_reducible apply List.mem_cons_of_mem))); (· (with_reducible first | exact ask13_g0 .. | exact ask13_g1 ..)); (simp only [Act.put, List.setIfInBounds_toArray, List.set_cons_zero, List.set_cons_succ])))
          refine (net13_H (p := p) (q := q) (S := S) c qt o0 HO.out HG.out (H.top2 (.there (.there (.there (.there (.there .here))))) (.there (.there (.there (.there (.there .here))))))).mono ?_
          clear H
          rintro e w10 ⟨n1, k1, e1, S1, rfl, ho1, H⟩
          have HN1 := Lib.hid ho1
          clear ho1
          go_wp2_with (first | go_skip | ((with_reducible show wpList _ _ _ (_ :: _) _ _); (with_reducible apply wpl_loadCH); (· first | exact cell_cur | exact cell_i64); (· rfl); (· rfl); (· exact H); (· (repeat (first | (with_reducible exact List.mem_cons_self) | with_reducible apply List.mem_cons_of_mem))); (· (with_reducible first | exact ask13_g0 .. | exact ask13_g1 ..)); (simp only [Act.put, List.setIfInBounds_toArray, List.set_cons_zero, List.set_cons_succ])))
          refine (rnet13_H (p := rp) (S := S) c qt o0 HO.out HG.out (RefH.shut HLR.out.1 HLR.out.2 (H.top3 (.there (.there (.there (.there (.there (.there (.there .here))))))) (.there (.there (.there (.there (.there (.there (.there .here))))))) (.there (.there (.there (.there (.there (.there (.there .here)))))))))).mono ?_
          clear H
          rintro e w11 ⟨n2, k2, e2, S2, rfl, ho2, HH⟩
          obtain ⟨rfl, rfl, rfl, rfl⟩ := NetOut.det HN1.out ho2
          clear ho2
          obtain ⟨sa, sn, sc, sb, sm, sd, hl1, hl2, M, H⟩ := HH.open3
          have HLS := Lib.hid (And.intro hl1 hl2)
          have HG1 := Lib.hid (HN1.out.good HG.out)
          have SA := AnsH.on H (sameLed_A (p := p) (q := q) (rp := rp) (S := S1) HG1.out (.there (.there (.there .here))) (.there (.there (.there .here))) M)
          have b1 : (k1 != k1) = false := by simp
          have b2 : (e1 != e1) = false := by simp
          have b3 : (n1 != n1) = false := by simp
          clear hl1 hl2 M HH HN1
          go_wp2_with (first | go_skip | ((with_reducible refine AnsH.call (by assumption) H ?_); clear H; intro _ H))
          clear SA b1 b2 b3
          have B3 : Book w (RefC rp (.slice sa sn sc) (.slice sb sm sd) :: RowT 30 1 (.slice sa sn sc) sn (pI S1.P) :: RowT 65 5 (.slice sb sm sd) sm (linL S1.L) :: LdC p S1.P (some q) :: LdM q S1.L :: Cel px (ask13 (c : Int) qt) 35 :: []) kb [p1, p2] _ :=
            ⟨bf, bg, (((H.pull (.there (.there (.there (.there (.there (.there (.there (.there .here))))))))).pull (.there (.there (.there (.there (.there (.there (.there (.there .here))))))))).pull (.there (.there (.there (.there (.there (.there (.there (.there .here))))))))).pull (.there (.there (.there (.there (.there (.there (.there (.there .here)))))))), HK2.out⟩
          clear H HK2
          refine (Book.apart B3 (by simp)).mono ?_
          clear B3
          rintro e w12 ⟨rfl, H⟩
          go_wp2_with (go_skip)
          refine ⟨⟨j + 1, S1, by omega, by go_num, HG1.out, sa, sn, sc, sb, sm, sd, HLS.out.1, HLS.out.2, ?_⟩, ?measure2⟩
          case measure2 => simp [intOf]; omega
          exact (H.drop (.there (.there (.there (.there (.there .here)))))).top2 (.there (.there (.there .here))) (.there (.there (.there .here)))
        · obtain rfl : j = bn := by omega
          obtain ⟨ra, rn, rc, rb, rm, rd, hl1, hl2, H⟩ := HD
          clear hl1 hl2
          go_wp2_with (go_skip)
          refine (lives13_H H).mono ?_
          clear H
          rintro e w7 ⟨rfl, H⟩
          go_wp2_with (go_skip)
          go_ret
          exact ⟨rfl, H.low⟩
theorem nettingsPlay_law (v0 v1 : Value) (w : World) (o0 : ActsV w v0) (o1 : AsksNV w v1) : Calls Tryz.prog 3 #[v0, v1] w fun e w' => e = .returned (.bool true) ∧ Below w.heap.size w w' := by
  obtain ⟨a, m, d, F, rfl, o0⟩ := o0
  obtain ⟨b, k, c, G, rfl, o1⟩ := o1
  by_cases hn : m ≤ 120
  · by_cases hb : k ≤ 5
    · exact nettingsPlay_main w a b m d k c F G o0.len hn o0.ok o0.rd o1.len hb o1.ok o1.rd
    · exact nettingsPlay_great2 w a b m d k c hn (by omega) (Nat.le_trans o1.cap o1.max)
  · exact nettingsPlay_great1 w a b m d k c (by omega) (Nat.le_trans o0.cap o0.max)
end Go.Proofs.YtgobnamhdkbbeaaGreat
