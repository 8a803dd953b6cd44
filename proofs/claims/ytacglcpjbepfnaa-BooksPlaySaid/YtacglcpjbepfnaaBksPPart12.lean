/- Part 12 of what ProofBooksPlay stands on: LawBooksPlay2. -/
import Derived.Test.YtacglcpjbepfnaaBksPPart11
import Derived.Deep.Cut
import Derived.Deep.CutBlock
import Derived.Deep.DeepCutAuto
/- The walk of BooksPlay, from a number of one's own. (Printed by gen/lawbooksplay.py.) -/
namespace Go.Proofs.Ytacglcpjbepfnaa
open Go.RowKit
set_option linter.unusedSimpArgs false
set_option linter.unusedVariables false
set_option maxRecDepth 100000
section
variable {W w : World} {r : List Thing}
set_option maxHeartbeats 8000000
theorem booksPlay_some (w : World) (ea : Option Addr) (N ec : Nat) (F : List OAct) (nx : Int) (hl : F.length = N) (hn : N ≤ 120) (hnx : 0 < nx) (hnx2 : nx ≤ 18446744073709551615) (hF : ∀ x ∈ F, OActOk x) (R : Rd w ea (oactL F)) :
    Calls Try.prog 14 #[.slice ea N ec, .int .u64 nx] w fun e w' => e = .returned (.bool true) ∧ Below w.heap.size w w' := by
  have H := Heap.start w
  have d1 : decide ((N : Int) > 120) = false := decide_eq_false (by omega)
  have d2 : decide (120 < (N : Int)) = false := decide_eq_false (by omega)
  have HR := Lib.hid (show ∀ (l' : List Thing) w', Heap w l' w' → Rd w' ea (oactL F) from fun l' w' H' => R.below H'.low)
  have HL := Lib.hid (And.intro hl hF)
  clear hl hF R
  go_enter Try.func14, Try.ntmps14
  go_wp2_with (go_skip)
  refine (bnew_H H).mono ?_
  clear H
  rintro e w1 ⟨p0, rfl, H⟩
  go_wp2_with (go_skip)
  refine (rnew4_H H).mono ?_
  clear H
  rintro e w2 ⟨q0, rfl, H⟩
  have e1 : decide (nx > 0) = true := decide_eq_true hnx
  have e2 : decide (0 < nx) = true := decide_eq_true hnx
  have HE := Lib.hid (ofE_none (by omega : 1 ≤ nx))
  have HGG := Lib.hid (ofE_good HE.out hnx2)
  go_wp2_with (go_skip)
  refine (of4_H none 0 0 [] nx rfl (by omega) (by simp) (fun l' w' _ h => Rd.nil _ _) H).mono ?_
  clear H
  rintro e w3 (⟨_, p, v, rfl, H⟩ | ⟨h, _⟩)
  case inr => exact absurd HE.out h
  go_wp2_with (go_skip)
  refine (rof4_H none 0 0 [] nx rfl (by omega) (by omega) (by simp) (fun l' w' _ h => Rd.nil _ _) H).mono ?_
  clear H
  rintro e w4 (⟨_, q, a, c, rfl, H⟩ | ⟨h, _⟩)
  case inr => exact absurd HE.out h
  go_wp2_with (go_skip)
  have hex : ∃ (n : Nat) (B : Bok), B.Good ∧ B.L.length = n ∧ Heap w (duoB p v q a n c B []) w4 := ⟨0, ⟨[], nx⟩, HGG.out, rfl, Heap.left8 (A := [_, _, _, _]) H⟩
  clear H
  obtain ⟨n, B, hG, hBn, H⟩ := hex
  unfold duoB at H
  clear d1 d2 e1 e2
  have hnx1 := hG.nx.1
  have hfew := hG.few
  have HG := Lib.hid (And.intro hG hBn)
  clear hG hBn
  go_wp2_with (go_skip)
  refine (bcopy_H (p := p) (v := v) (nx := B.nx) (L := B.L) (n := B.L.length) (by (repeat (first | (with_reducible exact List.mem_cons_self) | with_reducible apply List.mem_cons_of_mem))) (by (repeat (first | (with_reducible exact List.mem_cons_self) | with_reducible apply List.mem_cons_of_mem))) (by omega) rfl (by omega) H).mono ?_
  clear H
  rintro e w5 ⟨cp, cv, rfl, H⟩
  go_wp2_with (go_skip)
  refine (rcopy4_H (p := q) (a := a) (n := n) (c := c) (nx := B.nx) (L := B.L) (by (repeat (first | (with_reducible exact List.mem_cons_self) | with_reducible apply List.mem_cons_of_mem))) (by (repeat (first | (with_reducible exact List.mem_cons_self) | with_reducible apply List.mem_cons_of_mem))) HG.out.2 (by have := HG.out.2; omega) H).mono ?_
  clear H
  rintro e w6 ⟨cq, ca, cc, rfl, H⟩
  go_wp2_with (go_skip)
  have H0 := ((((H.pull (.there (.there (.there (.there (.there (.there (.there .here)))))))).pull (.there (.there (.there (.there (.there (.there (.there .here)))))))).pull (.there (.there (.there (.there (.there (.there (.there .here)))))))).pull (.there (.there (.there (.there (.there (.there (.there .here))))))))
  clear H hnx1 hfew
  go_loopw [11, 12, 13] (fun vc vd i wr => LoopB w p q N vc vd i wr) (fun _ _ i _ => N - (intOf i).toNat)
  case atStart => exact ⟨0, v, a, n, c, B, cp, cq, cv, ca, n, cc, B, Nat.zero_le _, rfl, rfl, rfl, HG.out, HG.out, H0⟩
  case round =>
    clear HG H0
    obtain ⟨k, v, a, n, c, B, cp, cq, cv, ca, cn, cc, C, hk, rfl, rfl, rfl, hG, hGC, H⟩ := hrel.out
    clear hrel
    unfold duoB at H
    have HG := Lib.hid hG
    have HGC := Lib.hid hGC
    clear hG hGC
    by_cases hlt : k < N
    · have hkF : k < F.length := by rw [HL.out.1]; exact hlt
      have hrow := oactL_row F k hkF
      have hlen : k * 9 + 9 ≤ (oactL F).length := by rw [oactL_len]; omega
      have hok := HL.out.2 F[k] (List.getElem_mem hkF)
      obtain ⟨ba, oa, rfl, _⟩ := (HR.out _ _ H).lt (by omega)
      have HRd := Lib.hid (HR.out _ _ H)
      generalize F[k] = x at *
      clear hkF
      have HX := Lib.hid hok
      clear hok
      go_upto_block 2 with (first
        | ((with_reducible show wpList _ _ _ (_ :: _) _ _); (with_reducible apply wpl_allocRH row_oact); (· rfl); (· exact H); (clear H; intro pa _ H); (simp only [Act.put, List.setIfInBounds_toArray, List.set_cons_zero, List.set_cons_succ]))
        | ((with_reducible show wpList _ _ _ (_ :: _) _ _); (with_reducible apply wpl_allocRH row_ofr); (· rfl); (· exact H); (clear H; intro po _ H); (simp only [Act.put, List.setIfInBounds_toArray, List.set_cons_zero, List.set_cons_succ]))
        | go_skip
        | ((with_reducible show wpList _ _ _ (_ :: _) _ _); (with_reducible apply wpl_loadRdR row_oact); (· rfl); (· rfl); (· exact HRd.out); (· rfl); (· exact hlen); (· decide); (· exact hrow); (simp only [Act.put, List.setIfInBounds_toArray, List.set_cons_zero, List.set_cons_succ]))
        | ((with_reducible show wpList _ _ _ (_ :: _) _ _); (with_reducible apply wpl_storeRH row_oact); (· rfl); (· rfl); (· rfl); (· with_reducible exact oact_cells ..); (· exact H); (· (repeat (first | (with_reducible exact List.mem_cons_self) | with_reducible apply List.mem_cons_of_mem))); (· (simp only [oact_sz, Nat.reduceAdd, Nat.reduceLeDiff, Nat.le_refl]; done)); (· with_reducible exact oact_splice ..); (· (repeat (first | (with_reducible exact Repl.here) | with_reducible apply Repl.there))); (clear H; intro _ H); (simp only [Act.put, List.setIfInBounds_toArray, List.set_cons_zero, List.set_cons_succ]))
        | ((with_reducible show wpList _ _ _ (_ :: _) _ _); (with_reducible apply wpl_storeRH row_ofr); (· rfl); (· rfl); (· rfl); (· with_reducible exact ofr_cells ..); (· exact H); (· (repeat (first | (with_reducible exact List.mem_cons_self) | with_reducible apply List.mem_cons_of_mem))); (· (simp only [ofrA_sz, Nat.reduceAdd, Nat.reduceLeDiff, Nat.le_refl]; done)); (· with_reducible exact ofr_splice ..); (· (repeat (first | (with_reducible exact Repl.here) | with_reducible apply Repl.there))); (clear H; intro _ H); (simp only [Act.put, List.setIfInBounds_toArray, List.set_cons_zero, List.set_cons_succ]))
        | ((with_reducible show wpList _ _ _ (_ :: _) _ _); (with_reducible apply wpl_loadRH row_ofr); (· rfl); (· rfl); (· exact H); (· (repeat (first | (with_reducible exact List.mem_cons_self) | with_reducible apply List.mem_cons_of_mem))); (· (simp only [oact_sz, Nat.reduceAdd, Nat.reduceLeDiff, Nat.le_refl]; done)); (· with_reducible exact oact_ofr ..); (simp only [Act.put, List.setIfInBounds_toArray, List.set_cons_zero, List.set_cons_succ]))
        | ((with_reducible show wpList _ _ _ (_ :: _) _ _); (with_reducible apply wpl_loadCH); (· exact cell_u8); (· rfl); (· rfl); (· exact H); (· (repeat (first | (with_reducible exact List.mem_cons_self) | with_reducible apply List.mem_cons_of_mem))); (· with_reducible exact oact_g0 ..); (simp only [Act.put, List.setIfInBounds_toArray, List.set_cons_zero, List.set_cons_succ])))
      go_cut [11, 12, 74] (fun vc vd _ wx => MidB w p q po pa x vc vd wx)
      case first =>
        obtain ⟨xk, ⟨xs, xw, xe, xu, xl, xn, xd⟩, xm⟩ := x
        obtain ⟨⟨o0, o1⟩, oo, on⟩ := HX.out
        simp only at o0 o1 oo on H ⊢
        have hnx1 := HG.out.1.nx
        have HKP := Lib.hid (show OfrOk ⟨B.nx, xw, xe, xu, xl, xn, xd⟩ from ⟨by show 0 ≤ B.nx ∧ B.nx ≤ _; omega, oo.2, oo.3, oo.4, oo.5, oo.6, oo.7⟩)
        have HON := Lib.hid on
        clear oo on hrow hnx1
        have HXK := Lib.hid (show xk % 6 = 0 ∨ xk % 6 = 1 ∨ xk % 6 = 2 ∨ xk % 6 = 3 ∨ xk % 6 = 4 ∨ xk % 6 = 5 by omega)
        rcases HXK.out with hr2 | hr2 | hr2 | hr2 | hr2 | hr2
        · have h6 : Int.tmod xk 6 = 0 := by rw [Int.tmod_eq_emod_of_nonneg (by omega)]; omega
          have h6b : xk % 6 = 0 := hr2
          clear hr2
          go_wp2_with (first | go_skip | ((with_reducible show wpList _ _ _ (_ :: _) _ _); (with_reducible apply wpl_loadCH); (· first | exact cell_u64 | exact cell_party | exact cell_cur | exact cell_i64); (· rfl); (· rfl); (· exact H); (· (repeat (first | (with_reducible exact List.mem_cons_self) | with_reducible apply List.mem_cons_of_mem))); (· with_reducible first | exact ofr_g0 .. | exact ofr_g1 .. | exact ofr_g2 .. | exact ofr_g3 .. | exact ofr_g4 ..); (simp only [Act.put, List.setIfInBounds_toArray, List.set_cons_zero, List.set_cons_succ])) | ((with_reducible show wpList _ _ _ (_ :: _) _ _); (with_reducible apply wpl_loadRH row_rat); (· rfl); (· rfl); (· exact H); (· (repeat (first | (with_reducible exact List.mem_cons_self) | with_reducible apply List.mem_cons_of_mem))); (· (simp only [ofrA_sz, Nat.reduceAdd, Nat.reduceLeDiff, Nat.le_refl]; done)); (· with_reducible exact ofr_rat ..); (simp only [Act.put, List.setIfInBounds_toArray, List.set_cons_zero, List.set_cons_succ])))
          refine (place_H (p := p) (B := B) xw xe xu xl xn xd HKP.out HG.out.1 (H.top2 (.there (.there (.there (.there .here)))) (.there (.there (.there (.there .here)))))).mono ?_
          clear H
          rintro e w7 ⟨v2, rfl, H⟩
          go_wp2_with (first | go_skip | ((with_reducible show wpList _ _ _ (_ :: _) _ _); (with_reducible apply wpl_loadCH); (· first | exact cell_u64 | exact cell_party | exact cell_cur | exact cell_i64); (· rfl); (· rfl); (· exact H); (· (repeat (first | (with_reducible exact List.mem_cons_self) | with_reducible apply List.mem_cons_of_mem))); (· with_reducible first | exact ofr_g0 .. | exact ofr_g1 .. | exact ofr_g2 .. | exact ofr_g3 .. | exact ofr_g4 ..); (simp only [Act.put, List.setIfInBounds_toArray, List.set_cons_zero, List.set_cons_succ])) | ((with_reducible show wpList _ _ _ (_ :: _) _ _); (with_reducible apply wpl_loadRH row_rat); (· rfl); (· rfl); (· exact H); (· (repeat (first | (with_reducible exact List.mem_cons_self) | with_reducible apply List.mem_cons_of_mem))); (· (simp only [ofrA_sz, Nat.reduceAdd, Nat.reduceLeDiff, Nat.le_refl]; done)); (· with_reducible exact ofr_rat ..); (simp only [Act.put, List.setIfInBounds_toArray, List.set_cons_zero, List.set_cons_succ])))
          refine (rplace4_H (p := q) (B := B) xw xe xu xl xn xd HKP.out HG.out.1 ⟨a, n, c, HG.out.2, H.top2 (.there (.there (.there (.there .here)))) (.there (.there (.there (.there .here))))⟩).mono ?_
          clear H
          rintro e w8 ⟨rfl, a2, n2, c2, hl2, H⟩
          have HGN := Lib.hid (HG.out.1.place xw xe xu xl xn xd)
          generalize placeN B xw xe xu xl xn xd = r1 at *
          generalize placeE B xw xe xu xl xn xd = r2 at *
          have q1 : (r1 != r1) = false := by simp
          have q2 : (r2 != r2) = false := by simp
          generalize placeS B xw xe xu xl xn xd = B2 at *
          go_wp2_with (go_skip)
          go_meet
          exact ⟨v2, a2, n2, c2, B2, cp, cq, cv, ca, cn, cc, C, rfl, rfl, ⟨HGN.out, hl2⟩, HGC.out, H⟩
        · have h6 : Int.tmod xk 6 = 1 := by rw [Int.tmod_eq_emod_of_nonneg (by omega)]; omega
          have h6b : xk % 6 = 1 := hr2
          clear hr2
          go_wp2_with (first | go_skip | ((with_reducible show wpList _ _ _ (_ :: _) _ _); (with_reducible apply wpl_loadCH); (· first | exact cell_u64 | exact cell_party | exact cell_cur | exact cell_i64); (· rfl); (· rfl); (· exact H); (· (repeat (first | (with_reducible exact List.mem_cons_self) | with_reducible apply List.mem_cons_of_mem))); (· with_reducible first | exact ofr_g0 .. | exact ofr_g1 .. | exact ofr_g2 .. | exact ofr_g3 .. | exact ofr_g4 ..); (simp only [Act.put, List.setIfInBounds_toArray, List.set_cons_zero, List.set_cons_succ])) | ((with_reducible show wpList _ _ _ (_ :: _) _ _); (with_reducible apply wpl_loadRH row_rat); (· rfl); (· rfl); (· exact H); (· (repeat (first | (with_reducible exact List.mem_cons_self) | with_reducible apply List.mem_cons_of_mem))); (· (simp only [ofrA_sz, Nat.reduceAdd, Nat.reduceLeDiff, Nat.le_refl]; done)); (· with_reducible exact ofr_rat ..); (simp only [Act.put, List.setIfInBounds_toArray, List.set_cons_zero, List.set_cons_succ])))
          refine (place_H (p := p) (B := B) xw xe xu xl xn xd HKP.out HG.out.1 (H.top2 (.there (.there (.there (.there .here)))) (.there (.there (.there (.there .here)))))).mono ?_
          clear H
          rintro e w7 ⟨v2, rfl, H⟩
          go_wp2_with (first | go_skip | ((with_reducible show wpList _ _ _ (_ :: _) _ _); (with_reducible apply wpl_loadCH); (· first | exact cell_u64 | exact cell_party | exact cell_cur | exact cell_i64); (· rfl); (· rfl); (· exact H); (· (repeat (first | (with_reducible exact List.mem_cons_self) | with_reducible apply List.mem_cons_of_mem))); (· with_reducible first | exact ofr_g0 .. | exact ofr_g1 .. | exact ofr_g2 .. | exact ofr_g3 .. | exact ofr_g4 ..); (simp only [Act.put, List.setIfInBounds_toArray, List.set_cons_zero, List.set_cons_succ])) | ((with_reducible show wpList _ _ _ (_ :: _) _ _); (with_reducible apply wpl_loadRH row_rat); (· rfl); (· rfl); (· exact H); (· (repeat (first | (with_reducible exact List.mem_cons_self) | with_reducible apply List.mem_cons_of_mem))); (· (simp only [ofrA_sz, Nat.reduceAdd, Nat.reduceLeDiff, Nat.le_refl]; done)); (· with_reducible exact ofr_rat ..); (simp only [Act.put, List.setIfInBounds_toArray, List.set_cons_zero, List.set_cons_succ])))
          refine (rplace4_H (p := q) (B := B) xw xe xu xl xn xd HKP.out HG.out.1 ⟨a, n, c, HG.out.2, H.top2 (.there (.there (.there (.there .here)))) (.there (.there (.there (.there .here))))⟩).mono ?_
          clear H
          rintro e w8 ⟨rfl, a2, n2, c2, hl2, H⟩
          have HGN := Lib.hid (HG.out.1.place xw xe xu xl xn xd)
          generalize placeN B xw xe xu xl xn xd = r1 at *
          generalize placeE B xw xe xu xl xn xd = r2 at *
          have q1 : (r1 != r1) = false := by simp
          have q2 : (r2 != r2) = false := by simp
          generalize placeS B xw xe xu xl xn xd = B2 at *
          go_wp2_with (go_skip)
          go_meet
          exact ⟨v2, a2, n2, c2, B2, cp, cq, cv, ca, cn, cc, C, rfl, rfl, ⟨HGN.out, hl2⟩, HGC.out, H⟩
        · have h6 : Int.tmod xk 6 = 2 := by rw [Int.tmod_eq_emod_of_nonneg (by omega)]; omega
          have h6b : xk % 6 = 2 := hr2
          clear hr2
          go_wp2_with (first | go_skip | ((with_reducible show wpList _ _ _ (_ :: _) _ _); (with_reducible apply wpl_loadCH); (· first | exact cell_u64 | exact cell_party | exact cell_cur | exact cell_i64); (· rfl); (· rfl); (· exact H); (· (repeat (first | (with_reducible exact List.mem_cons_self) | with_reducible apply List.mem_cons_of_mem))); (· with_reducible first | exact ofr_g0 .. | exact ofr_g1 .. | exact ofr_g2 .. | exact ofr_g3 .. | exact ofr_g4 ..); (simp only [Act.put, List.setIfInBounds_toArray, List.set_cons_zero, List.set_cons_succ])) | ((with_reducible show wpList _ _ _ (_ :: _) _ _); (with_reducible apply wpl_loadRH row_rat); (· rfl); (· rfl); (· exact H); (· (repeat (first | (with_reducible exact List.mem_cons_self) | with_reducible apply List.mem_cons_of_mem))); (· (simp only [ofrA_sz, Nat.reduceAdd, Nat.reduceLeDiff, Nat.le_refl]; done)); (· with_reducible exact ofr_rat ..); (simp only [Act.put, List.setIfInBounds_toArray, List.set_cons_zero, List.set_cons_succ])))
          refine (place_H (p := p) (B := B) xw xe xu xl xn xd HKP.out HG.out.1 (H.top2 (.there (.there (.there (.there .here)))) (.there (.there (.there (.there .here)))))).mono ?_
          clear H
          rintro e w7 ⟨v2, rfl, H⟩
          go_wp2_with (first | go_skip | ((with_reducible show wpList _ _ _ (_ :: _) _ _); (with_reducible apply wpl_loadCH); (· first | exact cell_u64 | exact cell_party | exact cell_cur | exact cell_i64); (· rfl); (· rfl); (· exact H); (· (repeat (first | (with_reducible exact List.mem_cons_self) | with_reducible apply List.mem_cons_of_mem))); (· with_reducible first | exact ofr_g0 .. | exact ofr_g1 .. | exact ofr_g2 .. | exact ofr_g3 .. | exact ofr_g4 ..); (simp only [Act.put, List.setIfInBounds_toArray, List.set_cons_zero, List.set_cons_succ])) | ((with_reducible show wpList _ _ _ (_ :: _) _ _); (with_reducible apply wpl_loadRH row_rat); (· rfl); (· rfl); (· exact H); (· (repeat (first | (with_reducible exact List.mem_cons_self) | with_reducible apply List.mem_cons_of_mem))); (· (simp only [ofrA_sz, Nat.reduceAdd, Nat.reduceLeDiff, Nat.le_refl]; done)); (· with_reducible exact ofr_rat ..); (simp only [Act.put, List.setIfInBounds_toArray, List.set_cons_zero, List.set_cons_succ])))
          refine (rplace4_H (p := q) (B := B) xw xe xu xl xn xd HKP.out HG.out.1 ⟨a, n, c, HG.out.2, H.top2 (.there (.there (.there (.there .here)))) (.there (.there (.there (.there .here))))⟩).mono ?_
          clear H
          rintro e w8 ⟨rfl, a2, n2, c2, hl2, H⟩
          have HGN := Lib.hid (HG.out.1.place xw xe xu xl xn xd)
          generalize placeN B xw xe xu xl xn xd = r1 at *
          generalize placeE B xw xe xu xl xn xd = r2 at *
          have q1 : (r1 != r1) = false := by simp
          have q2 : (r2 != r2) = false := by simp
          generalize placeS B xw xe xu xl xn xd = B2 at *
          go_wp2_with (go_skip)
          go_meet
          exact ⟨v2, a2, n2, c2, B2, cp, cq, cv, ca, cn, cc, C, rfl, rfl, ⟨HGN.out, hl2⟩, HGC.out, H⟩
        · have h6 : Int.tmod xk 6 = 3 := by rw [Int.tmod_eq_emod_of_nonneg (by omega)]; omega
          have h6b : xk % 6 = 3 := hr2
          clear hr2
          go_wp2_with (first | go_skip | ((with_reducible show wpList _ _ _ (_ :: _) _ _); (with_reducible apply wpl_loadCH); (· first | exact cell_u64 | exact cell_party | exact cell_cur | exact cell_i64); (· rfl); (· rfl); (· exact H); (· (repeat (first | (with_reducible exact List.mem_cons_self) | with_reducible apply List.mem_cons_of_mem))); (· with_reducible first | exact ofr_g0 .. | exact ofr_g1 .. | exact ofr_g2 .. | exact ofr_g3 .. | exact ofr_g4 ..); (simp only [Act.put, List.setIfInBounds_toArray, List.set_cons_zero, List.set_cons_succ])) | ((with_reducible show wpList _ _ _ (_ :: _) _ _); (with_reducible apply wpl_loadRH row_rat); (· rfl); (· rfl); (· exact H); (· (repeat (first | (with_reducible exact List.mem_cons_self) | with_reducible apply List.mem_cons_of_mem))); (· (simp only [ofrA_sz, Nat.reduceAdd, Nat.reduceLeDiff, Nat.le_refl]; done)); (· with_reducible exact ofr_rat ..); (simp only [Act.put, List.setIfInBounds_toArray, List.set_cons_zero, List.set_cons_succ])))
          refine (cancel_H (p := p) (B := B) xw xs HG.out.1 (H.top2 (.there (.there (.there (.there .here)))) (.there (.there (.there (.there .here)))))).mono ?_
          clear H
          rintro e w7 ⟨v2, rfl, H⟩
          go_wp2_with (first | go_skip | ((with_reducible show wpList _ _ _ (_ :: _) _ _); (with_reducible apply wpl_loadCH); (· first | exact cell_u64 | exact cell_party | exact cell_cur | exact cell_i64); (· rfl); (· rfl); (· exact H); (· (repeat (first | (with_reducible exact List.mem_cons_self) | with_reducible apply List.mem_cons_of_mem))); (· with_reducible first | exact ofr_g0 .. | exact ofr_g1 .. | exact ofr_g2 .. | exact ofr_g3 .. | exact ofr_g4 ..); (simp only [Act.put, List.setIfInBounds_toArray, List.set_cons_zero, List.set_cons_succ])) | ((with_reducible show wpList _ _ _ (_ :: _) _ _); (with_reducible apply wpl_loadRH row_rat); (· rfl); (· rfl); (· exact H); (· (repeat (first | (with_reducible exact List.mem_cons_self) | with_reducible apply List.mem_cons_of_mem))); (· (simp only [ofrA_sz, Nat.reduceAdd, Nat.reduceLeDiff, Nat.le_refl]; done)); (· with_reducible exact ofr_rat ..); (simp only [Act.put, List.setIfInBounds_toArray, List.set_cons_zero, List.set_cons_succ])))
          refine (rcancel4_H (p := q) (B := B) xw xs HG.out.1 ⟨a, n, c, HG.out.2, H.top2 (.there (.there (.there (.there .here)))) (.there (.there (.there (.there .here))))⟩).mono ?_
          clear H
          rintro e w8 ⟨rfl, a2, n2, c2, hl2, H⟩
          have HGN := Lib.hid (HG.out.1.cancel xw xs)
          generalize cancelN B xw xs = r1 at *
          generalize cancelE B xw xs = r2 at *
          have q1 : (r1 != r1) = false := by simp
          have q2 : (r2 != r2) = false := by simp
          generalize cancelS B xw xs = B2 at *
          go_wp2_with (go_skip)
          go_meet
          exact ⟨v2, a2, n2, c2, B2, cp, cq, cv, ca, cn, cc, C, rfl, rfl, ⟨HGN.out, hl2⟩, HGC.out, H⟩
        · have h6 : Int.tmod xk 6 = 4 := by rw [Int.tmod_eq_emod_of_nonneg (by omega)]; omega
          have h6b : xk % 6 = 4 := hr2
          clear hr2
          go_wp2_with (first | go_skip | ((with_reducible show wpList _ _ _ (_ :: _) _ _); (with_reducible apply wpl_loadCH); (· first | exact cell_u64 | exact cell_party | exact cell_cur | exact cell_i64); (· rfl); (· rfl); (· exact H); (· (repeat (first | (with_reducible exact List.mem_cons_self) | with_reducible apply List.mem_cons_of_mem))); (· with_reducible first | exact ofr_g0 .. | exact ofr_g1 .. | exact ofr_g2 .. | exact ofr_g3 .. | exact ofr_g4 ..); (simp only [Act.put, List.setIfInBounds_toArray, List.set_cons_zero, List.set_cons_succ])) | ((with_reducible show wpList _ _ _ (_ :: _) _ _); (with_reducible apply wpl_loadRH row_rat); (· rfl); (· rfl); (· exact H); (· (repeat (first | (with_reducible exact List.mem_cons_self) | with_reducible apply List.mem_cons_of_mem))); (· (simp only [ofrA_sz, Nat.reduceAdd, Nat.reduceLeDiff, Nat.le_refl]; done)); (· with_reducible exact ofr_rat ..); (simp only [Act.put, List.setIfInBounds_toArray, List.set_cons_zero, List.set_cons_succ])))
          have q2 : (takeE B xs xm != takeE B xs xm) = false := by simp
          refine wp_region_K [5, 11] [0, 1, 2, 3, 4, 6, 7, 8, 9, 10, 5, 11, 12] [Cel po (ofrA ⟨xs, xw, xe, xu, xl, xn, xd⟩) 83, Cel pa (oactA ⟨xk, ⟨xs, xw, xe, xu, xl, xn, xd⟩, xm⟩) 97] H (keeps2 (by (repeat (first | (with_reducible exact List.mem_cons_self) | with_reducible apply List.mem_cons_of_mem))) (by (repeat (first | (with_reducible exact List.mem_cons_self) | with_reducible apply List.mem_cons_of_mem)))) (by kernel_rfl) (by kernel_rfl) ?_
          iterate 10 (apply wpK_step; (· rfl); (· rfl); (· rfl); (· exact Nat.le_of_ble_eq_true rfl); (· intro l0 hs0 w0 H0; (first | go_big_quiet_skip | (first | ((with_reducible apply wpQ_loadCH); (· exact cell_u64); (· rfl); (· rfl); (· exact hs0 _ List.mem_cons_self); (· with_reducible exact ofr_g0 ..); (simp only [Act.put, List.setIfInBounds_toArray, List.set_cons_zero, List.set_cons_succ])) | ((with_reducible apply wpQ_loadCH); (· exact cell_i64); (· rfl); (· rfl); (· exact hs0 _ (List.mem_cons_of_mem _ List.mem_cons_self)); (· with_reducible exact oact_g8 ..); (simp only [Act.put, List.setIfInBounds_toArray, List.set_cons_zero, List.set_cons_succ]))) | go_big_quiet_step (fail)); (refine wpQuiet_nil ?_); (simp only [Array.getD_eq_getD_getElem?, List.getElem?_toArray, List.getElem?_cons_succ, List.getElem?_cons_zero, Option.getD_some]; rfl)); (simp only [Act.put, List.setIfInBounds_toArray, List.set_cons_zero, List.set_cons_succ]))
          refine wpK_call (f := 60) (argl := [.pointer (some ⟨p, 0, none⟩), .int .u64 xs, .int .i64 xm]) rfl rfl rfl Try.call60 rfl ?_
          intro w0 H0
          refine (take_H (p := p) (B := B) xs xm HON.out HG.out.1 (H0.top2 (.there (.there (.there (.there .here)))) (.there (.there (.there (.there .here)))))).mono ?_
          clear H0
          rintro e w7 ⟨v2, rfl, H1⟩
          refine ⟨_, _, rfl, H1, _, Keeps.refl _, keeps2 (by (repeat (first | (with_reducible exact List.mem_cons_self) | with_reducible apply List.mem_cons_of_mem))) (by (repeat (first | (with_reducible exact List.mem_cons_self) | with_reducible apply List.mem_cons_of_mem))), ?_⟩
          clear H1
          (simp only [Act.put, List.setIfInBounds_toArray, List.set_cons_zero, List.set_cons_succ])
          refine wpK_call (f := 73) (argl := [.pointer (some ⟨q, 0, none⟩), .int .u64 xs, .int .i64 xm]) rfl rfl rfl Try.call73 rfl ?_
          intro w0 H0
          refine (rtake4_H (p := q) (B := B) xs xm HON.out HG.out.1 ⟨a, n, c, HG.out.2, H0.top2 (.there (.there (.there (.there .here)))) (.there (.there (.there (.there .here))))⟩).mono ?_
          clear H0
          rintro e w8 ⟨rfl, a2, n2, c2, hl2, H1⟩
          refine ⟨_, _, rfl, H1, _, Keeps.refl _, keeps2 (by (repeat (first | (with_reducible exact List.mem_cons_self) | with_reducible apply List.mem_cons_of_mem))) (by (repeat (first | (with_reducible exact List.mem_cons_self) | with_reducible apply List.mem_cons_of_mem))), ?_⟩
          clear H1
          (simp only [Act.put, List.setIfInBounds_toArray, List.set_cons_zero, List.set_cons_succ])
          (apply wpK_step; (· rfl); (· rfl); (· rfl); (· exact Nat.le_of_ble_eq_true rfl); (· intro l0 hs0 w0 H0; (first | go_big_quiet_skip | fail | go_big_quiet_step (fail)); (refine wpQuiet_nil ?_); (simp only [Array.getD_eq_getD_getElem?, List.getElem?_toArray, List.getElem?_cons_succ, List.getElem?_cons_zero, Option.getD_some]; rfl)); (simp only [Act.put, List.setIfInBounds_toArray, List.set_cons_zero, List.set_cons_succ]))
          (refine wpK_nil ?_; clear H; intro _ H)
          have HGN := Lib.hid (HG.out.1.take xs xm)
          generalize takeE B xs xm = r2 at *
          generalize takeS B xs xm = B2 at *
          go_wp2_with (go_skip)
          go_meet
          exact ⟨v2, a2, n2, c2, B2, cp, cq, cv, ca, cn, cc, C, rfl, rfl, ⟨HGN.out, hl2⟩, HGC.out, H⟩
        · have h6 : Int.tmod xk 6 = 5 := by rw [Int.tmod_eq_emod_of_nonneg (by omega)]; omega
          have h6b : xk % 6 = 5 := hr2
          clear hr2
          have hc1 := HGC.out.1.nx.1
          have hc2 := HGC.out.1.few
          have hb1 := HG.out.1.nx.1
          have hb2 := HG.out.1.few
          have SM := AnsH.at8 H (same4_A (p := cp) (rp := cq) (v := cv) (b := ca) (d := cc) (nx := C.nx) (L := C.L) (n := C.L.length) (by (repeat (first | (with_reducible exact List.mem_cons_self) | with_reducible apply List.mem_cons_of_mem))) (by (repeat (first | (with_reducible exact List.mem_cons_self) | with_reducible apply List.mem_cons_of_mem))) (by rw [HGC.out.2]; (repeat (first | (with_reducible exact List.mem_cons_self) | with_reducible apply List.mem_cons_of_mem))) (by rw [HGC.out.2]; (repeat (first | (with_reducible exact List.mem_cons_self) | with_reducible apply List.mem_cons_of_mem))) (by omega) rfl (by omega))
          go_wp2_with (first | go_skip | ((with_reducible refine AnsH.call (by assumption) H ?_); clear H; intro _ H))
          clear SM
          refine (bcopy_H (p := p) (v := v) (nx := B.nx) (L := B.L) (n := B.L.length) (by (repeat (first | (with_reducible exact List.mem_cons_self) | with_reducible apply List.mem_cons_of_mem))) (by (repeat (first | (with_reducible exact List.mem_cons_self) | with_reducible apply List.mem_cons_of_mem))) (by omega) rfl (by omega) H).mono ?_
          clear H
          rintro e w5 ⟨cp2, cv2, rfl, H⟩
          go_wp2_with (go_skip)
          refine (rcopy4_H (p := q) (a := a) (n := n) (c := c) (nx := B.nx) (L := B.L) (by (repeat (first | (with_reducible exact List.mem_cons_self) | with_reducible apply List.mem_cons_of_mem))) (by (repeat (first | (with_reducible exact List.mem_cons_self) | with_reducible apply List.mem_cons_of_mem))) HG.out.2 (by have := HG.out.2; omega) H).mono ?_
          clear H
          rintro e w6 ⟨cq2, ca2, cc2, rfl, H⟩
          go_wp2_with (go_skip)
          replace H := Heap.cut10 H
          go_meet
          exact ⟨v, a, n, c, B, cp2, cq2, cv2, ca2, n, cc2, B, rfl, rfl, HG.out, HG.out, (((((H.pull (.there (.there (.there (.there (.there .here)))))).pull (.there (.there (.there (.there (.there .here)))))).pull (.there (.there (.there (.there (.there (.there (.there (.there (.there .here)))))))))).pull (.there (.there (.there (.there (.there (.there (.there (.there (.there .here)))))))))).pull (.there (.there (.there (.there (.there (.there (.there (.there (.there .here)))))))))).pull (.there (.there (.there (.there (.there (.there (.there (.there (.there .here)))))))))⟩

      case rest =>
        clear H HG HGC
        obtain ⟨v, a, n, c, B, cp, cq, cv, ca, cn, cc, C, rfl, rfl, hG, hGC, H⟩ := hcut.out
        unfold duoB at H
        have HG := Lib.hid hG
        have HGC := Lib.hid hGC
        clear hcut hG hGC
        have hnx1 := HG.out.1.nx.1
        have hfew := HG.out.1.few
        obtain ⟨xk, ⟨xs, xw, xe, xu, xl, xn, xd⟩, xm⟩ := x
        simp only at H hrow ⊢
        obtain ⟨fo, fb, hfv⟩ := findV_form B.L xs
        have F1 := AnsH.at8 H (find_H (p := p) (v := v) (nx := B.nx) (L := B.L) (n := B.L.length) xs (by (repeat (first | (with_reducible exact List.mem_cons_self) | with_reducible apply List.mem_cons_of_mem))) (by (repeat (first | (with_reducible exact List.mem_cons_self) | with_reducible apply List.mem_cons_of_mem))) (by omega) rfl (by omega))
        have F2 := Lib.hid (fun (l' : List Thing) (x1 : RBk q (.slice a n c) B.nx ∈ l') (x2 : OfT (.slice a n c) n B.L ∈ l') => rfind4_H (W := w) (l := l') (p := q) (a := a) (n := n) (c := c) (nx := B.nx) (L := B.L) xs x1 x2 HG.out.2 (by have := HG.out.2; omega))
        rw [hfv] at F1 F2
        clear hfv
        have q1 : (fb != fb) = false := by cases fb <;> rfl
        go_wp2_with (first | ((with_reducible show wpList _ _ _ (_ :: _) _ _); (with_reducible apply wpl_allocRH row_ofr); (· rfl); (· exact H); (clear H; intro pf _ H); (simp only [Act.put, List.setIfInBounds_toArray, List.set_cons_zero, List.set_cons_succ])) | go_skip | ((with_reducible refine AnsH.call (by assumption) H ?_); clear H; intro _ H) | ((with_reducible show wpList _ _ _ (_ :: _) _ _); (with_reducible apply wpl_storeRH row_ofr); (· rfl); (· rfl); (· rfl); (· with_reducible exact ofr_cells ..); (· exact H); (· (repeat (first | (with_reducible exact List.mem_cons_self) | with_reducible apply List.mem_cons_of_mem))); (· (simp only [ofrA_sz, Nat.reduceAdd, Nat.reduceLeDiff, Nat.le_refl]; done)); (· with_reducible exact ofr_splice ..); (· (repeat (first | (with_reducible exact Repl.here) | with_reducible apply Repl.there))); (clear H; intro _ H); (simp only [Act.put, List.setIfInBounds_toArray, List.set_cons_zero, List.set_cons_succ])) | ((with_reducible show wpList _ _ _ (_ :: _) _ _); (with_reducible apply wpl_loadCH); (· first | exact cell_u64 | exact cell_party | exact cell_cur | exact cell_i64); (· rfl); (· rfl); (· exact H); (· (repeat (first | (with_reducible exact List.mem_cons_self) | with_reducible apply List.mem_cons_of_mem))); (· with_reducible first | exact ofr_g0 .. | exact ofr_g1 .. | exact ofr_g2 .. | exact ofr_g3 .. | exact ofr_g4 ..); (simp only [Act.put, List.setIfInBounds_toArray, List.set_cons_zero, List.set_cons_succ])))
        clear F1
        have F3 := AnsH.at8 H (F2.out _ (by (repeat (first | (with_reducible exact List.mem_cons_self) | with_reducible apply List.mem_cons_of_mem))) (by (repeat (first | (with_reducible exact List.mem_cons_self) | with_reducible apply List.mem_cons_of_mem))))
        clear F2
        go_wp2_with (first | ((with_reducible show wpList _ _ _ (_ :: _) _ _); (with_reducible apply wpl_allocRH row_ofr); (· rfl); (· exact H); (clear H; intro pg _ H); (simp only [Act.put, List.setIfInBounds_toArray, List.set_cons_zero, List.set_cons_succ])) | go_skip | ((with_reducible refine AnsH.call (by assumption) H ?_); clear H; intro _ H) | ((with_reducible show wpList _ _ _ (_ :: _) _ _); (with_reducible apply wpl_storeRH row_ofr); (· rfl); (· rfl); (· rfl); (· with_reducible exact ofr_cells ..); (· exact H); (· (repeat (first | (with_reducible exact List.mem_cons_self) | with_reducible apply List.mem_cons_of_mem))); (· (simp only [ofrA_sz, Nat.reduceAdd, Nat.reduceLeDiff, Nat.le_refl]; done)); (· with_reducible exact ofr_splice ..); (· (repeat (first | (with_reducible exact Repl.here) | with_reducible apply Repl.there))); (clear H; intro _ H); (simp only [Act.put, List.setIfInBounds_toArray, List.set_cons_zero, List.set_cons_succ])) | ((with_reducible show wpList _ _ _ (_ :: _) _ _); (with_reducible apply wpl_loadCH); (· first | exact cell_u64 | exact cell_party | exact cell_cur | exact cell_i64); (· rfl); (· rfl); (· exact H); (· (repeat (first | (with_reducible exact List.mem_cons_self) | with_reducible apply List.mem_cons_of_mem))); (· with_reducible first | exact ofr_g0 .. | exact ofr_g1 .. | exact ofr_g2 .. | exact ofr_g3 .. | exact ofr_g4 ..); (simp only [Act.put, List.setIfInBounds_toArray, List.set_cons_zero, List.set_cons_succ])))
        clear F3
        refine (best_H (p := p) (v := v) (B := B) xe xu HG.out.1 (by (repeat (first | (with_reducible exact List.mem_cons_self) | with_reducible apply List.mem_cons_of_mem))) (by (repeat (first | (with_reducible exact List.mem_cons_self) | with_reducible apply List.mem_cons_of_mem))) H).mono ?_
        clear H
        rintro e w5 ⟨bv, rfl, H⟩
        obtain ⟨ba2, bc, rfl, _, _⟩ := OwnT.formO (H.ok _ List.mem_cons_self)
        have hbl := bestO_len B.L xe xu
        have SM := AnsH.at8 H (same4_A (p := p) (rp := q) (v := v) (b := a) (d := c) (nx := B.nx) (L := B.L) (n := B.L.length) (by (repeat (first | (with_reducible exact List.mem_cons_self) | with_reducible apply List.mem_cons_of_mem))) (by (repeat (first | (with_reducible exact List.mem_cons_self) | with_reducible apply List.mem_cons_of_mem))) (by rw [HG.out.2]; (repeat (first | (with_reducible exact List.mem_cons_self) | with_reducible apply List.mem_cons_of_mem))) (by rw [HG.out.2]; (repeat (first | (with_reducible exact List.mem_cons_self) | with_reducible apply List.mem_cons_of_mem))) (by omega) rfl (by omega))
        go_wp2_with (first | go_skip | ((with_reducible show wpList _ _ _ (_ :: _) _ _); (with_reducible apply wpl_loadRH row_ofr); (· rfl); (· rfl); (· exact H); (· (repeat (first | (with_reducible exact List.mem_cons_self) | with_reducible apply List.mem_cons_of_mem))); (· (simp only [ofrA_sz, Nat.reduceAdd, Nat.reduceLeDiff, Nat.le_refl]; done)); (· with_reducible exact ofrA_all ..); (simp only [Act.put, List.setIfInBounds_toArray, List.set_cons_zero, List.set_cons_succ])) | ((with_reducible show wpList _ _ _ (_ :: _) _ _); (with_reducible apply wpl_neqO); (· rfl); (· rfl); (· rfl); (simp only [Act.put, List.setIfInBounds_toArray, List.set_cons_zero, List.set_cons_succ])) | ((with_reducible refine AnsH.call (by assumption) H ?_); clear H; intro _ H) | ((with_reducible show wpList _ _ _ (_ :: _) _ _); (with_reducible apply wpl_loadCH); (· first | exact cell_u64 | exact cell_party | exact cell_cur | exact cell_i64); (· rfl); (· rfl); (· exact H); (· (repeat (first | (with_reducible exact List.mem_cons_self) | with_reducible apply List.mem_cons_of_mem))); (· with_reducible first | exact ofr_g0 .. | exact ofr_g1 .. | exact ofr_g2 .. | exact ofr_g3 .. | exact ofr_g4 ..); (simp only [Act.put, List.setIfInBounds_toArray, List.set_cons_zero, List.set_cons_succ])))
        clear SM
        refine (rbest4_H (p := q) (a := a) (n := n) (c := c) (nx := B.nx) (L := B.L) xe xu (by (repeat (first | (with_reducible exact List.mem_cons_self) | with_reducible apply List.mem_cons_of_mem))) (by (repeat (first | (with_reducible exact List.mem_cons_self) | with_reducible apply List.mem_cons_of_mem))) HG.out.2 (by have := HG.out.2; omega) HG.out.1.oks8 H).mono ?_
        clear H
        rintro e w6 ⟨a4, n4, c4, rfl, hl4, H⟩
        subst hl4
        have SO := AnsH.at8 H (sameOffers_P (L := bestO B.L xe xu) ba2 a4 (bestO B.L xe xu).length bc c4 rfl (by omega) (fun w' H' => H'.ownRd (by (repeat (first | (with_reducible exact List.mem_cons_self) | with_reducible apply List.mem_cons_of_mem)))) (fun w' H' => H'.rowRd (by (repeat (first | (with_reducible exact List.mem_cons_self) | with_reducible apply List.mem_cons_of_mem)))))
        go_wp2_with (first | go_skip | ((with_reducible refine AnsH.call (by assumption) H ?_); clear H; intro _ H))
        clear SO
        replace H := H.pull (.there .here)
        refine (lay_Of _ [] ba2 _ bc (by simp) (Book.new (H.alloc #[.slice none 0 0] 60))).mono ?_
        clear H
        rintro e w7 ⟨rfl, pg1, BK⟩
        go_wp2_with (go_skip)
        refine (Book.allO (p := p) (v := v) (nx := B.nx) (L := B.L) (n := B.L.length) (by (repeat (first | (with_reducible exact List.mem_cons_self) | with_reducible apply List.mem_cons_of_mem))) (by (repeat (first | (with_reducible exact List.mem_cons_self) | with_reducible apply List.mem_cons_of_mem))) (by omega) rfl (by omega) BK).mono ?_
        clear BK
        rintro e w8 ⟨a7, c7, rfl, BK⟩
        go_wp2_with (go_skip)
        refine (lay_Of _ _ a7 _ c7 (by simp) BK).mono ?_
        clear BK
        rintro e w9 ⟨rfl, pg2, BK⟩
        go_wp2_with (go_skip)
        refine (Book.apart BK (by simp)).mono ?_
        clear BK
        rintro e w10 ⟨rfl, H⟩
        go_wp2_with (go_skip)
        replace H := (((H.drop .here).drop .here).drop .here)
        replace H := ((H.drop (.there (.there (.there (.there .here))))).drop (.there (.there (.there (.there .here)))))
        go_roundw
        case rel => exact ⟨k + 1, v, a, n, c, B, cp, cq, cv, ca, cn, cc, C, by omega, by go_num, rfl, rfl, HG.out, HGC.out, H⟩
        case measure => simp [intOf]; omega
    · obtain rfl : k = N := by omega
      have hc1 := HGC.out.1.nx.1
      have hc2 := HGC.out.1.few
      have hb1 := HG.out.1.nx.1
      have hb2 := HG.out.1.few
      have SM := AnsH.at8 H (same4_A (p := cp) (rp := cq) (v := cv) (b := ca) (d := cc) (nx := C.nx) (L := C.L) (n := C.L.length) (by (repeat (first | (with_reducible exact List.mem_cons_self) | with_reducible apply List.mem_cons_of_mem))) (by (repeat (first | (with_reducible exact List.mem_cons_self) | with_reducible apply List.mem_cons_of_mem))) (by rw [HGC.out.2]; (repeat (first | (with_reducible exact List.mem_cons_self) | with_reducible apply List.mem_cons_of_mem))) (by rw [HGC.out.2]; (repeat (first | (with_reducible exact List.mem_cons_self) | with_reducible apply List.mem_cons_of_mem))) (by omega) rfl (by omega))
      have SM2 := AnsH.at8 H (same4_A (p := p) (rp := q) (v := v) (b := a) (d := c) (nx := B.nx) (L := B.L) (n := B.L.length) (by (repeat (first | (with_reducible exact List.mem_cons_self) | with_reducible apply List.mem_cons_of_mem))) (by (repeat (first | (with_reducible exact List.mem_cons_self) | with_reducible apply List.mem_cons_of_mem))) (by rw [HG.out.2]; (repeat (first | (with_reducible exact List.mem_cons_self) | with_reducible apply List.mem_cons_of_mem))) (by rw [HG.out.2]; (repeat (first | (with_reducible exact List.mem_cons_self) | with_reducible apply List.mem_cons_of_mem))) (by omega) rfl (by omega))
      clear hc1 hc2 hb1 hb2
      go_wp2_with (first | go_skip | ((with_reducible refine AnsH.call (by assumption) H ?_); clear H; intro _ H) | ((refine (lives04_H H).mono ?_); clear H; rintro _ _ ⟨rfl, H⟩))
      go_ret
      exact ⟨rfl, H.low⟩
theorem booksPlay_law (v0 : Value) (x1 : Int) (w : World) (o0 : OActsV w v0) (o1 : 0 ≤ x1) (o2 : x1 ≤ 18446744073709551615) : Calls Try.prog 14 #[v0, .int .u64 x1] w fun e w' => e = .returned (.bool true) ∧ Below w.heap.size w w' := by
  obtain ⟨a, n, c, F, rfl, o0⟩ := o0
  by_cases h : 120 < n
  · exact booksPlay_great w a n c x1 h (Nat.le_trans o0.cap o0.max)
  · by_cases h2 : 0 < x1
    · exact booksPlay_some w a n c F x1 o0.len (by omega) h2 o2 o0.ok o0.rd
    · exact booksPlay_none w a n c F x1 o0.len (by omega) (by omega) o2 o0.ok o0.rd
end
end Go.Proofs.Ytacglcpjbepfnaa
