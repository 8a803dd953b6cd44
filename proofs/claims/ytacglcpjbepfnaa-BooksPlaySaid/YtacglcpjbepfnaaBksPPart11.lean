/- Part 11 of what ProofBooksPlay stands on: LawBooksPlay. -/
import Derived.Test.YtacglcpjbepfnaaBksPPart10
import Derived.Deep.Cut
import Derived.Deep.CutBlock
import Derived.Deep.DeepCutAuto
/- The walk of BooksPlay. (Printed by gen/lawbooksplay.py.) -/
namespace Go.Proofs.Ytacglcpjbepfnaa
open Go.RowKit
set_option linter.unusedSimpArgs false
set_option linter.unusedVariables false
set_option maxRecDepth 100000
theorem oact_cells (x : OAct) : Cells 9 (oactA x) := ⟨rfl, by simp [oactA, oactV, Value.oneCell']⟩
theorem oact_splice (x y : OAct) : splice (oactA x) 0 (oactA y) = oactA y := splice_all rfl
theorem oactL_row (F : List OAct) (i : Nat) (h : i < F.length) : (((oactL F).drop (i * 9)).take 9).toArray = oactA F[i] := by rw [oactL_at F i h]; rfl
theorem AnsH.at8 {W w : World} {l : List Thing} {f : FuncId} {args : Array Value} {v : Value} (_ : Heap W l w) (h : AnsH W l f args v) : AnsH W l f args v := h
theorem findV_form (L : List Ofr) (s : Int) : ∃ o b, findV L s = .tuple #[.agg (ofrA o), .bool b] := by
  unfold findV
  split
  · exact ⟨_, _, rfl⟩
  · exact ⟨_, _, rfl⟩
theorem ofE_none {nx : Int} (h : 1 ≤ nx) : ofE [] nx = 0 := by
  rw [ofE_ok, if_neg (by simp), if_pos (okO_iff.2 ⟨by simp, .nil, by omega⟩)]
theorem Bok.Good.oks8 {B : Bok} (G : B.Good) : ∀ o ∈ B.L, OfrOk o := fun o ho => by
  obtain ⟨h1, h2, h3⟩ := G.ok o ho
  obtain ⟨t1, t2, t3, t4, t5, t6⟩ := mayO_iff.1 h1
  have tf := may_facts t6
  have := G.nx.2
  exact ⟨by omega, by omega, by omega, by omega, by omega, by omega, by omega⟩
theorem Heap.left8 {W w : World} {A X : List Thing} (H : Heap W (A ++ X) w) : Heap W A w :=
  ⟨H.low, fun x hx => H.ok x (List.mem_append_left _ hx), fun x hx => H.fp x (List.mem_append_left _ hx), (List.pairwise_append.1 H.apart).1⟩
theorem Heap.cut10 {W w : World} {x1 x2 x3 x4 x5 x6 x7 x8 x9 x10 : Thing} {X : List Thing} (H : Heap W (x1 :: x2 :: x3 :: x4 :: x5 :: x6 :: x7 :: x8 :: x9 :: x10 :: X) w) : Heap W [x1, x2, x3, x4, x5, x6, x7, x8, x9, x10] w := Heap.left8 (A := [x1, x2, x3, x4, x5, x6, x7, x8, x9, x10]) H
/-- A book and the document's, with the same offers. -/
def duoB (p : Nat) (v : Value) (q : Nat) (a : Option Addr) (n c : Nat) (B : Bok) (l : List Thing) : List Thing :=
  RBk q (.slice a n c) B.nx :: OfT (.slice a n c) n B.L :: BkB p v B.nx :: OfT v B.L.length B.L :: l
structure LoopB (W : World) (p q N : Nat) (vc vd i : Value) (wr : World) : Prop where
  out : ∃ (k : Nat) (v : Value) (a : Option Addr) (n c : Nat) (B : Bok) (cp cq : Nat) (cv : Value) (ca : Option Addr) (cn cc : Nat) (C : Bok), k ≤ N ∧ i = .int .i64 (k : Int) ∧ vc = .pointer (some ⟨cp, 0, none⟩) ∧ vd = .pointer (some ⟨cq, 0, none⟩) ∧ (B.Good ∧ B.L.length = n) ∧ (C.Good ∧ C.L.length = cn) ∧ Heap W (duoB p v q a n c B (duoB cp cv cq ca cn cc C [])) wr
structure MidB (W : World) (p q po pa : Nat) (x : OAct) (vc vd : Value) (wr : World) : Prop where
  out : ∃ (v : Value) (a : Option Addr) (n c : Nat) (B : Bok) (cp cq : Nat) (cv : Value) (ca : Option Addr) (cn cc : Nat) (C : Bok), vc = .pointer (some ⟨cp, 0, none⟩) ∧ vd = .pointer (some ⟨cq, 0, none⟩) ∧ (B.Good ∧ B.L.length = n) ∧ (C.Good ∧ C.L.length = cn) ∧ Heap W (duoB p v q a n c B (Cel po (ofrA x.o) 83 :: Cel pa (oactA x) 97 :: duoB cp cv cq ca cn cc C [])) wr
section
variable {ops : Array Oper} {rest : List Oper} {a : Act} {w : World} {Q : Exit → Act → World → Prop}
theorem wpl_neqO {dst : Option Tmp} {ty : TypeId} {pos : String} {after : Array Edge} {guard : Option (Nat × Bool)} {p q : Operand} {r : Ofr} (hw : Region.wanted ⟨dst, .binOp .neq 83 p q 83, ty, pos, after, guard⟩ (yielded ops a.tmps) = true) (hp : a.eval p = .agg (ofrA r)) (hq : a.eval q = .agg (ofrA r))
    (h : wpList Try.prog ops Q rest (a.put dst (.bool false)) w) : wpList Try.prog ops Q (⟨dst, .binOp .neq 83 p q 83, ty, pos, after, guard⟩ :: rest) a w := by
  have hg : (Try.prog.eqGuardType Try.prog.depth 83) = false := by kernel_rfl
  refine wpl_pure hw _ (fun w => ?_) h
  unfold execOp
  simp only [hp, hq, Sem.run_bind, neqO_run]
  simp [eqGuard, hg, neqO_run]
end
section
variable {W w : World} {r : List Thing}
set_option maxHeartbeats 8000000
theorem Book.allO {kb p n : Nat} {v : Value} {nx : Int} {L : List Ofr} {ps : List PageT} (m1 : BkB p v nx ∈ r) (m2 : OfT v n L ∈ r) (h : 0 < nx) (hl : L.length = n) (hn : n ≤ 1000000) (B : Book W r kb ps w) :
    Calls Try.prog 52 #[.pointer (some ⟨p, 0, none⟩)] w fun e w' => ∃ a c, e = .returned (.slice a n c) ∧ Book W (OwO (.slice a n c) n L :: r) kb ps w' := by
  obtain ⟨a, c, H, hok⟩ := B
  refine (all_H (p := p) (L := L) (List.mem_cons_of_mem _ (List.mem_cons_of_mem _ (List.mem_append_right _ m1))) (List.mem_cons_of_mem _ (List.mem_cons_of_mem _ (List.mem_append_right _ m2))) h hl hn H).mono ?_
  rintro e w' ⟨v', rfl, H⟩
  obtain ⟨a', c', rfl, _, _⟩ := OwnT.formO (H.ok _ List.mem_cons_self)
  refine ⟨a', c', rfl, a, c, ?_, hok⟩
  refine H.perm ?_
  exact (List.Perm.swap _ _ _).trans (List.Perm.cons _ ((List.Perm.swap _ _ _).trans (List.Perm.cons _ List.perm_middle.symm)))
theorem booksPlay_great (w : World) (ea : Option Addr) (n ec : Nat) (nx : Int) (hg : 120 < n) (hm : n ≤ maxLen) :
    Calls Try.prog 14 #[.slice ea n ec, .int .u64 nx] w fun e w' => e = .returned (.bool true) ∧ Below w.heap.size w w' := by
  have H := Heap.start w
  unfold maxLen at hm
  have d1 : decide ((n : Int) > 120) = true := decide_eq_true (by omega)
  have d2 : decide (120 < (n : Int)) = true := decide_eq_true (by omega)
  go_enter Try.func14, Try.ntmps14
  go_wp2_with (go_skip)
  refine (lives04_H H).mono ?_
  clear H
  rintro e w7 ⟨rfl, H⟩
  go_wp2_with (go_skip)
  go_ret
  exact ⟨rfl, H.low⟩
theorem booksPlay_none (w : World) (ea : Option Addr) (N ec : Nat) (F : List OAct) (nx : Int) (hl : F.length = N) (hn : N ≤ 120) (hnx : nx = 0) (hnx2 : nx ≤ 18446744073709551615) (hF : ∀ x ∈ F, OActOk x) (R : Rd w ea (oactL F)) :
    Calls Try.prog 14 #[.slice ea N ec, .int .u64 nx] w fun e w' => e = .returned (.bool true) ∧ Below w.heap.size w w' := by
  have H := Heap.start w
  have d1 : decide ((N : Int) > 120) = false := decide_eq_false (by omega)
  have d2 : decide (120 < (N : Int)) = false := decide_eq_false (by omega)
  have HR := Lib.hid (show ∀ (l' : List Thing) w', Heap w l' w' → Rd w' ea (oactL F) from fun l' w' H' => R.below H'.low)
  have HL := Lib.hid (And.intro hl hF)
  clear hl hF R
  go_enter Try.func14, Try.ntmps14
  go_wp2_with (go_skip)
  refine (bnew_H H).mono ?_
  clear H
  rintro e w1 ⟨p0, rfl, H⟩
  go_wp2_with (go_skip)
  refine (rnew4_H H).mono ?_
  clear H
  rintro e w2 ⟨q0, rfl, H⟩
  have e1 : decide (nx > 0) = false := decide_eq_false (by omega)
  have e2 : decide (0 < nx) = false := decide_eq_false (by omega)
  subst hnx
  go_wp2_with (go_skip)
  have hex : ∃ (p q : Nat) (v : Value) (a : Option Addr) (n c : Nat) (B : Bok), p = p0 ∧ q = q0 ∧ B.Good ∧ B.L.length = n ∧ Heap w (duoB p v q a n c B []) w2 := ⟨p0, q0, .slice none 0 0, none, 0, 0, bB0, rfl, rfl, bB_g0, rfl, H⟩
  clear H
  obtain ⟨p, q, v, a, n, c, B, ep, eq, hG, hBn, H⟩ := hex
  subst ep eq
  unfold duoB at H
  clear d1 d2 e1 e2
  have hnx1 := hG.nx.1
  have hfew := hG.few
  have HG := Lib.hid (And.intro hG hBn)
  clear hG hBn
  go_wp2_with (go_skip)
  refine (bcopy_H (p := p) (v := v) (nx := B.nx) (L := B.L) (n := B.L.length) (by (repeat (first | (with_reducible exact List.mem_cons_self) | with_reducible apply List.mem_cons_of_mem))) (by (repeat (first | (with_reducible exact List.mem_cons_self) | with_reducible apply List.mem_cons_of_mem))) (by omega) rfl (by omega) H).mono ?_
  clear H
  rintro e w5 ⟨cp, cv, rfl, H⟩
  go_wp2_with (go_skip)
  refine (rcopy4_H (p := q) (a := a) (n := n) (c := c) (nx := B.nx) (L := B.L) (by (repeat (first | (with_reducible exact List.mem_cons_self) | with_reducible apply List.mem_cons_of_mem))) (by (repeat (first | (with_reducible exact List.mem_cons_self) | with_reducible apply List.mem_cons_of_mem))) HG.out.2 (by have := HG.out.2; omega) H).mono ?_
  clear H
  rintro e w6 ⟨cq, ca, cc, rfl, H⟩
  go_wp2_with (go_skip)
  have H0 := ((((H.pull (.there (.there (.there (.there (.there (.there (.there .here)))))))).pull (.there (.there (.there (.there (.there (.there (.there .here)))))))).pull (.there (.there (.there (.there (.there (.there (.there .here)))))))).pull (.there (.there (.there (.there (.there (.there (.there .here))))))))
  clear H hnx1 hfew
  go_loopw [11, 12, 13] (fun vc vd i wr => LoopB w p q N vc vd i wr) (fun _ _ i _ => N - (intOf i).toNat)
  case atStart => exact ⟨0, v, a, n, c, B, cp, cq, cv, ca, n, cc, B, Nat.zero_le _, rfl, rfl, rfl, HG.out, HG.out, H0⟩
  case round =>
    clear HG H0
    obtain ⟨k, v, a, n, c, B, cp, cq, cv, ca, cn, cc, C, hk, rfl, rfl, rfl, hG, hGC, H⟩ := hrel.out
    clear hrel
    unfold duoB at H
    have HG := Lib.hid hG
    have HGC := Lib.hid hGC
    clear hG hGC
    by_cases hlt : k < N
    · have hkF : k < F.length := by rw [HL.out.1]; exact hlt
      have hrow := oactL_row F k hkF
      have hlen : k * 9 + 9 ≤ (oactL F).length := by rw [oactL_len]; omega
      have hok := HL.out.2 F[k] (List.getElem_mem hkF)
      obtain ⟨ba, oa, rfl, _⟩ := (HR.out _ _ H).lt (by omega)
      have HRd := Lib.hid (HR.out _ _ H)
      generalize F[k] = x at *
      clear hkF
      have HX := Lib.hid hok
      clear hok
      go_upto_block 2 with (first
        | ((with_reducible show wpList _ _ _ (_ :: _) _ _); (with_reducible apply wpl_allocRH row_oact); (· rfl); (· exact H); (clear H; intro pa _ H); (simp only [Act.put, List.setIfInBounds_toArray, List.set_cons_zero, List.set_cons_succ]))
        | ((with_reducible show wpList _ _ _ (_ :: _) _ _); (with_reducible apply wpl_allocRH row_ofr); (· rfl); (· exact H); (clear H; intro po _ H); (simp only [Act.put, List.setIfInBounds_toArray, List.set_cons_zero, List.set_cons_succ]))
        | go_skip
        | ((with_reducible show wpList _ _ _ (_ :: _) _ _); (with_reducible apply wpl_loadRdR row_oact); (· rfl); (· rfl); (· exact HRd.out); (· rfl); (· exact hlen); (· decide); (· exact hrow); (simp only [Act.put, List.setIfInBounds_toArray, List.set_cons_zero, List.set_cons_succ]))
        | ((with_reducible show wpList _ _ _ (_ :: _) _ _); (with_reducible apply wpl_storeRH row_oact); (· rfl); (· rfl); (· rfl); (· with_reducible exact oact_cells ..); (· exact H); (· (repeat (first | (with_reducible exact List.mem_cons_self) | with_reducible apply List.mem_cons_of_mem))); (· (simp only [oact_sz, Nat.reduceAdd, Nat.reduceLeDiff, Nat.le_refl]; done)); (· with_reducible exact oact_splice ..); (· (repeat (first | (with_reducible exact Repl.here) | with_reducible apply Repl.there))); (clear H; intro _ H); (simp only [Act.put, List.setIfInBounds_toArray, List.set_cons_zero, List.set_cons_succ]))
        | ((with_reducible show wpList _ _ _ (_ :: _) _ _); (with_reducible apply wpl_storeRH row_ofr); (· rfl); (· rfl); (· rfl); (· with_reducible exact ofr_cells ..); (· exact H); (· (repeat (first | (with_reducible exact List.mem_cons_self) | with_reducible apply List.mem_cons_of_mem))); (· (simp only [ofrA_sz, Nat.reduceAdd, Nat.reduceLeDiff, Nat.le_refl]; done)); (· with_reducible exact ofr_splice ..); (· (repeat (first | (with_reducible exact Repl.here) | with_reducible apply Repl.there))); (clear H; intro _ H); (simp only [Act.put, List.setIfInBounds_toArray, List.set_cons_zero, List.set_cons_succ]))
        | ((with_reducible show wpList _ _ _ (_ :: _) _ _); (with_reducible apply wpl_loadRH row_ofr); (· rfl); (· rfl); (· exact H); (· (repeat (first | (with_reducible exact List.mem_cons_self) | with_reducible apply List.mem_cons_of_mem))); (· (simp only [oact_sz, Nat.reduceAdd, Nat.reduceLeDiff, Nat.le_refl]; done)); (· with_reducible exact oact_ofr ..); (simp only [Act.put, List.setIfInBounds_toArray, List.set_cons_zero, List.set_cons_succ]))
        | ((with_reducible show wpList _ _ _ (_ :: _) _ _); (with_reducible apply wpl_loadCH); (· exact cell_u8); (· rfl); (· rfl); (· exact H); (· (repeat (first | (with_reducible exact List.mem_cons_self) | with_reducible apply List.mem_cons_of_mem))); (· with_reducible exact oact_g0 ..); (simp only [Act.put, List.setIfInBounds_toArray, List.set_cons_zero, List.set_cons_succ])))
      go_cut [11, 12, 74] (fun vc vd _ wx => MidB w p q po pa x vc vd wx)
      case first =>
        obtain ⟨xk, ⟨xs, xw, xe, xu, xl, xn, xd⟩, xm⟩ := x
        obtain ⟨⟨o0, o1⟩, oo, on⟩ := HX.out
        simp only at o0 o1 oo on H ⊢
        have hnx1 := HG.out.1.nx
        have HKP := Lib.hid (show OfrOk ⟨B.nx, xw, xe, xu, xl, xn, xd⟩ from ⟨by show 0 ≤ B.nx ∧ B.nx ≤ _; omega, oo.2, oo.3, oo.4, oo.5, oo.6, oo.7⟩)
        have HON := Lib.hid on
        clear oo on hrow hnx1
        have HXK := Lib.hid (show xk % 6 = 0 ∨ xk % 6 = 1 ∨ xk % 6 = 2 ∨ xk % 6 = 3 ∨ xk % 6 = 4 ∨ xk % 6 = 5 by omega)
        rcases HXK.out with hr2 | hr2 | hr2 | hr2 | hr2 | hr2
        · have h6 : Int.tmod xk 6 = 0 := by rw [Int.tmod_eq_emod_of_nonneg (by omega)]; omega
          have h6b : xk % 6 = 0 := hr2
          clear hr2
          go_wp2_with (first | go_skip | ((with_reducible show wpList _ _ _ (_ :: _) _ _); (with_reducible apply wpl_loadCH); (· first | exact cell_u64 | exact cell_party | exact cell_cur | exact cell_i64); (· rfl); (· rfl); (· exact H); (· (repeat (first | (with_reducible exact List.mem_cons_self) | with_reducible apply List.mem_cons_of_mem))); (· with_reducible first | exact ofr_g0 .. | exact ofr_g1 .. | exact ofr_g2 .. | exact ofr_g3 .. | exact ofr_g4 ..); (simp only [Act.put, List.setIfInBounds_toArray, List.set_cons_zero, List.set_cons_succ])) | ((with_reducible show wpList _ _ _ (_ :: _) _ _); (with_reducible apply wpl_loadRH row_rat); (· rfl); (· rfl); (· exact H); (· (repeat (first | (with_reducible exact List.mem_cons_self) | with_reducible apply List.mem_cons_of_mem))); (· (simp only [ofrA_sz, Nat.reduceAdd, Nat.reduceLeDiff, Nat.le_refl]; done)); (· with_reducible exact ofr_rat ..); (simp only [Act.put, List.setIfInBounds_toArray, List.set_cons_zero, List.set_cons_succ])))
          refine (place_H (p := p) (B := B) xw xe xu xl xn xd HKP.out HG.out.1 (H.top2 (.there (.there (.there (.there .here)))) (.there (.there (.there (.there .here)))))).mono ?_
          clear H
          rintro e w7 ⟨v2, rfl, H⟩
          go_wp2_with (first | go_skip | ((with_reducible show wpList _ _ _ (_ :: _) _ _); (with_reducible apply wpl_loadCH); (· first | exact cell_u64 | exact cell_party | exact cell_cur | exact cell_i64); (· rfl); (· rfl); (· exact H); (· (repeat (first | (with_reducible exact List.mem_cons_self) | with_reducible apply List.mem_cons_of_mem))); (· with_reducible first | exact ofr_g0 .. | exact ofr_g1 .. | exact ofr_g2 .. | exact ofr_g3 .. | exact ofr_g4 ..); (simp only [Act.put, List.setIfInBounds_toArray, List.set_cons_zero, List.set_cons_succ])) | ((with_reducible show wpList _ _ _ (_ :: _) _ _); (with_reducible apply wpl_loadRH row_rat); (· rfl); (· rfl); (· exact H); (· (repeat (first | (with_reducible exact List.mem_cons_self) | with_reducible apply List.mem_cons_of_mem))); (· (simp only [ofrA_sz, Nat.reduceAdd, Nat.reduceLeDiff, Nat.le_refl]; done)); (· with_reducible exact ofr_rat ..); (simp only [Act.put, List.setIfInBounds_toArray, List.set_cons_zero, List.set_cons_succ])))
          refine (rplace4_H (p := q) (B := B) xw xe xu xl xn xd HKP.out HG.out.1 ⟨a, n, c, HG.out.2, H.top2 (.there (.there (.there (.there .here)))) (.there (.there (.there (.there .here))))⟩).mono ?_
          clear H
          rintro e w8 ⟨rfl, a2, n2, c2, hl2, H⟩
          have HGN := Lib.hid (HG.out.1.place xw xe xu xl xn xd)
          generalize placeN B xw xe xu xl xn xd = r1 at *
          generalize placeE B xw xe xu xl xn xd = r2 at *
          have q1 : (r1 != r1) = false := by simp
          have q2 : (r2 != r2) = false := by simp
          generalize placeS B xw xe xu xl xn xd = B2 at *
          go_wp2_with (go_skip)
          go_meet
          exact ⟨v2, a2, n2, c2, B2, cp, cq, cv, ca, cn, cc, C, rfl, rfl, ⟨HGN.out, hl2⟩, HGC.out, H⟩
        · have h6 : Int.tmod xk 6 = 1 := by rw [Int.tmod_eq_emod_of_nonneg (by omega)]; omega
          have h6b : xk % 6 = 1 := hr2
          clear hr2
          go_wp2_with (first | go_skip | ((with_reducible show wpList _ _ _ (_ :: _) _ _); (with_reducible apply wpl_loadCH); (· first | exact cell_u64 | exact cell_party | exact cell_cur | exact cell_i64); (· rfl); (· rfl); (· exact H); (· (repeat (first | (with_reducible exact List.mem_cons_self) | with_reducible apply List.mem_cons_of_mem))); (· with_reducible first | exact ofr_g0 .. | exact ofr_g1 .. | exact ofr_g2 .. | exact ofr_g3 .. | exact ofr_g4 ..); (simp only [Act.put, List.setIfInBounds_toArray, List.set_cons_zero, List.set_cons_succ])) | ((with_reducible show wpList _ _ _ (_ :: _) _ _); (with_reducible apply wpl_loadRH row_rat); (· rfl); (· rfl); (· exact H); (· (repeat (first | (with_reducible exact List.mem_cons_self) | with_reducible apply List.mem_cons_of_mem))); (· (simp only [ofrA_sz, Nat.reduceAdd, Nat.reduceLeDiff, Nat.le_refl]; done)); (· with_reducible exact ofr_rat ..); (simp only [Act.put, List.setIfInBounds_toArray, List.set_cons_zero, List.set_cons_succ])))
          refine (place_H (p := p) (B := B) xw xe xu xl xn xd HKP.out HG.out.1 (H.top2 (.there (.there (.there (.there .here)))) (.there (.there (.there (.there .here)))))).mono ?_
          clear H
          rintro e w7 ⟨v2, rfl, H⟩
          go_wp2_with (first | go_skip | ((with_reducible show wpList _ _ _ (_ :: _) _ _); (with_reducible apply wpl_loadCH); (· first | exact cell_u64 | exact cell_party | exact cell_cur | exact cell_i64); (· rfl); (· rfl); (· exact H); (· (repeat (first | (with_reducible exact List.mem_cons_self) | with_reducible apply List.mem_cons_of_mem))); (· with_reducible first | exact ofr_g0 .. | exact ofr_g1 .. | exact ofr_g2 .. | exact ofr_g3 .. | exact ofr_g4 ..); (simp only [Act.put, List.setIfInBounds_toArray, List.set_cons_zero, List.set_cons_succ])) | ((with_reducible show wpList _ _ _ (_ :: _) _ _); (with_reducible apply wpl_loadRH row_rat); (· rfl); (· rfl); (· exact H); (· (repeat (first | (with_reducible exact List.mem_cons_self) | with_reducible apply List.mem_cons_of_mem))); (· (simp only [ofrA_sz, Nat.reduceAdd, Nat.reduceLeDiff, Nat.le_refl]; done)); (· with_reducible exact ofr_rat ..); (simp only [Act.put, List.setIfInBounds_toArray, List.set_cons_zero, List.set_cons_succ])))
          refine (rplace4_H (p := q) (B := B) xw xe xu xl xn xd HKP.out HG.out.1 ⟨a, n, c, HG.out.2, H.top2 (.there (.there (.there (.there .here)))) (.there (.there (.there (.there .here))))⟩).mono ?_
          clear H
          rintro e w8 ⟨rfl, a2, n2, c2, hl2, H⟩
          have HGN := Lib.hid (HG.out.1.place xw xe xu xl xn xd)
          generalize placeN B xw xe xu xl xn xd = r1 at *
          generalize placeE B xw xe xu xl xn xd = r2 at *
          have q1 : (r1 != r1) = false := by simp
          have q2 : (r2 != r2) = false := by simp
          generalize placeS B xw xe xu xl xn xd = B2 at *
          go_wp2_with (go_skip)
          go_meet
          exact ⟨v2, a2, n2, c2, B2, cp, cq, cv, ca, cn, cc, C, rfl, rfl, ⟨HGN.out, hl2⟩, HGC.out, H⟩
        · have h6 : Int.tmod xk 6 = 2 := by rw [Int.tmod_eq_emod_of_nonneg (by omega)]; omega
          have h6b : xk % 6 = 2 := hr2
          clear hr2
          go_wp2_with (first | go_skip | ((with_reducible show wpList _ _ _ (_ :: _) _ _); (with_reducible apply wpl_loadCH); (· first | exact cell_u64 | exact cell_party | exact cell_cur | exact cell_i64); (· rfl); (· rfl); (· exact H); (· (repeat (first | (with_reducible exact List.mem_cons_self) | with_reducible apply List.mem_cons_of_mem))); (· with_reducible first | exact ofr_g0 .. | exact ofr_g1 .. | exact ofr_g2 .. | exact ofr_g3 .. | exact ofr_g4 ..); (simp only [Act.put, List.setIfInBounds_toArray, List.set_cons_zero, List.set_cons_succ])) | ((with_reducible show wpList _ _ _ (_ :: _) _ _); (with_reducible apply wpl_loadRH row_rat); (· rfl); (· rfl); (· exact H); (· (repeat (first | (with_reducible exact List.mem_cons_self) | with_reducible apply List.mem_cons_of_mem))); (· (simp only [ofrA_sz, Nat.reduceAdd, Nat.reduceLeDiff, Nat.le_refl]; done)); (· with_reducible exact ofr_rat ..); (simp only [Act.put, List.setIfInBounds_toArray, List.set_cons_zero, List.set_cons_succ])))
          refine (place_H (p := p) (B := B) xw xe xu xl xn xd HKP.out HG.out.1 (H.top2 (.there (.there (.there (.there .here)))) (.there (.there (.there (.there .here)))))).mono ?_
          clear H
          rintro e w7 ⟨v2, rfl, H⟩
          go_wp2_with (first | go_skip | ((with_reducible show wpList _ _ _ (_ :: _) _ _); (with_reducible apply wpl_loadCH); (· first | exact cell_u64 | exact cell_party | exact cell_cur | exact cell_i64); (· rfl); (· rfl); (· exact H); (· (repeat (first | (with_reducible exact List.mem_cons_self) | with_reducible apply List.mem_cons_of_mem))); (· with_reducible first | exact ofr_g0 .. | exact ofr_g1 .. | exact ofr_g2 .. | exact ofr_g3 .. | exact ofr_g4 ..); (simp only [Act.put, List.setIfInBounds_toArray, List.set_cons_zero, List.set_cons_succ])) | ((with_reducible show wpList _ _ _ (_ :: _) _ _); (with_reducible apply wpl_loadRH row_rat); (· rfl); (· rfl); (· exact H); (· (repeat (first | (with_reducible exact List.mem_cons_self) | with_reducible apply List.mem_cons_of_mem))); (· (simp only [ofrA_sz, Nat.reduceAdd, Nat.reduceLeDiff, Nat.le_refl]; done)); (· with_reducible exact ofr_rat ..); (simp only [Act.put, List.setIfInBounds_toArray, List.set_cons_zero, List.set_cons_succ])))
          refine (rplace4_H (p := q) (B := B) xw xe xu xl xn xd HKP.out HG.out.1 ⟨a, n, c, HG.out.2, H.top2 (.there (.there (.there (.there .here)))) (.there (.there (.there (.there .here))))⟩).mono ?_
          clear H
          rintro e w8 ⟨rfl, a2, n2, c2, hl2, H⟩
          have HGN := Lib.hid (HG.out.1.place xw xe xu xl xn xd)
          generalize placeN B xw xe xu xl xn xd = r1 at *
          generalize placeE B xw xe xu xl xn xd = r2 at *
          have q1 : (r1 != r1) = false := by simp
          have q2 : (r2 != r2) = false := by simp
          generalize placeS B xw xe xu xl xn xd = B2 at *
          go_wp2_with (go_skip)
          go_meet
          exact ⟨v2, a2, n2, c2, B2, cp, cq, cv, ca, cn, cc, C, rfl, rfl, ⟨HGN.out, hl2⟩, HGC.out, H⟩
        · have h6 : Int.tmod xk 6 = 3 := by rw [Int.tmod_eq_emod_of_nonneg (by omega)]; omega
          have h6b : xk % 6 = 3 := hr2
          clear hr2
          go_wp2_with (first | go_skip | ((with_reducible show wpList _ _ _ (_ :: _) _ _); (with_reducible apply wpl_loadCH); (· first | exact cell_u64 | exact cell_party | exact cell_cur | exact cell_i64); (· rfl); (· rfl); (· exact H); (· (repeat (first | (with_reducible exact List.mem_cons_self) | with_reducible apply List.mem_cons_of_mem))); (· with_reducible first | exact ofr_g0 .. | exact ofr_g1 .. | exact ofr_g2 .. | exact ofr_g3 .. | exact ofr_g4 ..); (simp only [Act.put, List.setIfInBounds_toArray, List.set_cons_zero, List.set_cons_succ])) | ((with_reducible show wpList _ _ _ (_ :: _) _ _); (with_reducible apply wpl_loadRH row_rat); (· rfl); (· rfl); (· exact H); (· (repeat (first | (with_reducible exact List.mem_cons_self) | with_reducible apply List.mem_cons_of_mem))); (· (simp only [ofrA_sz, Nat.reduceAdd, Nat.reduceLeDiff, Nat.le_refl]; done)); (· with_reducible exact ofr_rat ..); (simp only [Act.put, List.setIfInBounds_toArray, List.set_cons_zero, List.set_cons_succ])))
          refine (cancel_H (p := p) (B := B) xw xs HG.out.1 (H.top2 (.there (.there (.there (.there .here)))) (.there (.there (.there (.there .here)))))).mono ?_
          clear H
          rintro e w7 ⟨v2, rfl, H⟩
          go_wp2_with (first | go_skip | ((with_reducible show wpList _ _ _ (_ :: _) _ _); (with_reducible apply wpl_loadCH); (· first | exact cell_u64 | exact cell_party | exact cell_cur | exact cell_i64); (· rfl); (· rfl); (· exact H); (· (repeat (first | (with_reducible exact List.mem_cons_self) | with_reducible apply List.mem_cons_of_mem))); (· with_reducible first | exact ofr_g0 .. | exact ofr_g1 .. | exact ofr_g2 .. | exact ofr_g3 .. | exact ofr_g4 ..); (simp only [Act.put, List.setIfInBounds_toArray, List.set_cons_zero, List.set_cons_succ])) | ((with_reducible show wpList _ _ _ (_ :: _) _ _); (with_reducible apply wpl_loadRH row_rat); (· rfl); (· rfl); (· exact H); (· (repeat (first | (with_reducible exact List.mem_cons_self) | with_reducible apply List.mem_cons_of_mem))); (· (simp only [ofrA_sz, Nat.reduceAdd, Nat.reduceLeDiff, Nat.le_refl]; done)); (· with_reducible exact ofr_rat ..); (simp only [Act.put, List.setIfInBounds_toArray, List.set_cons_zero, List.set_cons_succ])))
          refine (rcancel4_H (p := q) (B := B) xw xs HG.out.1 ⟨a, n, c, HG.out.2, H.top2 (.there (.there (.there (.there .here)))) (.there (.there (.there (.there .here))))⟩).mono ?_
          clear H
          rintro e w8 ⟨rfl, a2, n2, c2, hl2, H⟩
          have HGN := Lib.hid (HG.out.1.cancel xw xs)
          generalize cancelN B xw xs = r1 at *
          generalize cancelE B xw xs = r2 at *
          have q1 : (r1 != r1) = false := by simp
          have q2 : (r2 != r2) = false := by simp
          generalize cancelS B xw xs = B2 at *
          go_wp2_with (go_skip)
          go_meet
          exact ⟨v2, a2, n2, c2, B2, cp, cq, cv, ca, cn, cc, C, rfl, rfl, ⟨HGN.out, hl2⟩, HGC.out, H⟩
        · have h6 : Int.tmod xk 6 = 4 := by rw [Int.tmod_eq_emod_of_nonneg (by omega)]; omega
          have h6b : xk % 6 = 4 := hr2
          clear hr2
          go_wp2_with (first | go_skip | ((with_reducible show wpList _ _ _ (_ :: _) _ _); (with_reducible apply wpl_loadCH); (· first | exact cell_u64 | exact cell_party | exact cell_cur | exact cell_i64); (· rfl); (· rfl); (· exact H); (· (repeat (first | (with_reducible exact List.mem_cons_self) | with_reducible apply List.mem_cons_of_mem))); (· with_reducible first | exact ofr_g0 .. | exact ofr_g1 .. | exact ofr_g2 .. | exact ofr_g3 .. | exact ofr_g4 ..); (simp only [Act.put, List.setIfInBounds_toArray, List.set_cons_zero, List.set_cons_succ])) | ((with_reducible show wpList _ _ _ (_ :: _) _ _); (with_reducible apply wpl_loadRH row_rat); (· rfl); (· rfl); (· exact H); (· (repeat (first | (with_reducible exact List.mem_cons_self) | with_reducible apply List.mem_cons_of_mem))); (· (simp only [ofrA_sz, Nat.reduceAdd, Nat.reduceLeDiff, Nat.le_refl]; done)); (· with_reducible exact ofr_rat ..); (simp only [Act.put, List.setIfInBounds_toArray, List.set_cons_zero, List.set_cons_succ])))
          have q2 : (takeE B xs xm != takeE B xs xm) = false := by simp
          refine wp_region_K [5, 11] [0, 1, 2, 3, 4, 6, 7, 8, 9, 10, 5, 11, 12] [Cel po (ofrA ⟨xs, xw, xe, xu, xl, xn, xd⟩) 83, Cel pa (oactA ⟨xk, ⟨xs, xw, xe, xu, xl, xn, xd⟩, xm⟩) 97] H (keeps2 (by (repeat (first | (with_reducible exact List.mem_cons_self) | with_reducible apply List.mem_cons_of_mem))) (by (repeat (first | (with_reducible exact List.mem_cons_self) | with_reducible apply List.mem_cons_of_mem)))) (by kernel_rfl) (by kernel_rfl) ?_
          iterate 10 (apply wpK_step; (· rfl); (· rfl); (· rfl); (· exact Nat.le_of_ble_eq_true rfl); (· intro l0 hs0 w0 H0; (first | go_big_quiet_skip | (first | ((with_reducible apply wpQ_loadCH); (· exact cell_u64); (· rfl); (· rfl); (· exact hs0 _ List.mem_cons_self); (· with_reducible exact ofr_g0 ..); (simp only [Act.put, List.setIfInBounds_toArray, List.set_cons_zero, List.set_cons_succ])) | ((with_reducible apply wpQ_loadCH); (· exact cell_i64); (· rfl); (· rfl); (· exact hs0 _ (List.mem_cons_of_mem _ List.mem_cons_self)); (· with_reducible exact oact_g8 ..); (simp only [Act.put, List.setIfInBounds_toArray, List.set_cons_zero, List.set_cons_succ]))) | go_big_quiet_step (fail)); (refine wpQuiet_nil ?_); (simp only [Array.getD_eq_getD_getElem?, List.getElem?_toArray, List.getElem?_cons_succ, List.getElem?_cons_zero, Option.getD_some]; rfl)); (simp only [Act.put, List.setIfInBounds_toArray, List.set_cons_zero, List.set_cons_succ]))
          refine wpK_call (f := 60) (argl := [.pointer (some ⟨p, 0, none⟩), .int .u64 xs, .int .i64 xm]) rfl rfl rfl Try.call60 rfl ?_
          intro w0 H0
          refine (take_H (p := p) (B := B) xs xm HON.out HG.out.1 (H0.top2 (.there (.there (.there (.there .here)))) (.there (.there (.there (.there .here)))))).mono ?_
          clear H0
          rintro e w7 ⟨v2, rfl, H1⟩
          refine ⟨_, _, rfl, H1, _, Keeps.refl _, keeps2 (by (repeat (first | (with_reducible exact List.mem_cons_self) | with_reducible apply List.mem_cons_of_mem))) (by (repeat (first | (with_reducible exact List.mem_cons_self) | with_reducible apply List.mem_cons_of_mem))), ?_⟩
          clear H1
          (simp only [Act.put, List.setIfInBounds_toArray, List.set_cons_zero, List.set_cons_succ])
          refine wpK_call (f := 73) (argl := [.pointer (some ⟨q, 0, none⟩), .int .u64 xs, .int .i64 xm]) rfl rfl rfl Try.call73 rfl ?_
          intro w0 H0
          refine (rtake4_H (p := q) (B := B) xs xm HON.out HG.out.1 ⟨a, n, c, HG.out.2, H0.top2 (.there (.there (.there (.there .here)))) (.there (.there (.there (.there .here))))⟩).mono ?_
          clear H0
          rintro e w8 ⟨rfl, a2, n2, c2, hl2, H1⟩
          refine ⟨_, _, rfl, H1, _, Keeps.refl _, keeps2 (by (repeat (first | (with_reducible exact List.mem_cons_self) | with_reducible apply List.mem_cons_of_mem))) (by (repeat (first | (with_reducible exact List.mem_cons_self) | with_reducible apply List.mem_cons_of_mem))), ?_⟩
          clear H1
          (simp only [Act.put, List.setIfInBounds_toArray, List.set_cons_zero, List.set_cons_succ])
          (apply wpK_step; (· rfl); (· rfl); (· rfl); (· exact Nat.le_of_ble_eq_true rfl); (· intro l0 hs0 w0 H0; (first | go_big_quiet_skip | fail | go_big_quiet_step (fail)); (refine wpQuiet_nil ?_); (simp only [Array.getD_eq_getD_getElem?, List.getElem?_toArray, List.getElem?_cons_succ, List.getElem?_cons_zero, Option.getD_some]; rfl)); (simp only [Act.put, List.setIfInBounds_toArray, List.set_cons_zero, List.set_cons_succ]))
          (refine wpK_nil ?_; clear H; intro _ H)
          have HGN := Lib.hid (HG.out.1.take xs xm)
          generalize takeE B xs xm = r2 at *
          generalize takeS B xs xm = B2 at *
          go_wp2_with (go_skip)
          go_meet
          exact ⟨v2, a2, n2, c2, B2, cp, cq, cv, ca, cn, cc, C, rfl, rfl, ⟨HGN.out, hl2⟩, HGC.out, H⟩
        · have h6 : Int.tmod xk 6 = 5 := by rw [Int.tmod_eq_emod_of_nonneg (by omega)]; omega
          have h6b : xk % 6 = 5 := hr2
          clear hr2
          have hc1 := HGC.out.1.nx.1
          have hc2 := HGC.out.1.few
          have hb1 := HG.out.1.nx.1
          have hb2 := HG.out.1.few
          have SM := AnsH.at8 H (same4_A (p := cp) (rp := cq) (v := cv) (b := ca) (d := cc) (nx := C.nx) (L := C.L) (n := C.L.length) (by (repeat (first | (with_reducible exact List.mem_cons_self) | with_reducible apply List.mem_cons_of_mem))) (by (repeat (first | (with_reducible exact List.mem_cons_self) | with_reducible apply List.mem_cons_of_mem))) (by rw [HGC.out.2]; (repeat (first | (with_reducible exact List.mem_cons_self) | with_reducible apply List.mem_cons_of_mem))) (by rw [HGC.out.2]; (repeat (first | (with_reducible exact List.mem_cons_self) | with_reducible apply List.mem_cons_of_mem))) (by omega) rfl (by omega))
          go_wp2_with (first | go_skip | ((with_reducible refine AnsH.call (by assumption) H ?_); clear H; intro _ H))
          clear SM
          refine (bcopy_H (p := p) (v := v) (nx := B.nx) (L := B.L) (n := B.L.length) (by (repeat (first | (with_reducible exact List.mem_cons_self) | with_reducible apply List.mem_cons_of_mem))) (by (repeat (first | (with_reducible exact List.mem_cons_self) | with_reducible apply List.mem_cons_of_mem))) (by omega) rfl (by omega) H).mono ?_
          clear H
          rintro e w5 ⟨cp2, cv2, rfl, H⟩
          go_wp2_with (go_skip)
          refine (rcopy4_H (p := q) (a := a) (n := n) (c := c) (nx := B.nx) (L := B.L) (by (repeat (first | (with_reducible exact List.mem_cons_self) | with_reducible apply List.mem_cons_of_mem))) (by (repeat (first | (with_reducible exact List.mem_cons_self) | with_reducible apply List.mem_cons_of_mem))) HG.out.2 (by have := HG.out.2; omega) H).mono ?_
          clear H
          rintro e w6 ⟨cq2, ca2, cc2, rfl, H⟩
          go_wp2_with (go_skip)
          replace H := Heap.cut10 H
          go_meet
          exact ⟨v, a, n, c, B, cp2, cq2, cv2, ca2, n, cc2, B, rfl, rfl, HG.out, HG.out, (((((H.pull (.there (.there (.there (.there (.there .here)))))).pull (.there (.there (.there (.there (.there .here)))))).pull (.there (.there (.there (.there (.there (.there (.there (.there (.there .here)))))))))).pull (.there (.there (.there (.there (.there (.there (.there (.there (.there .here)))))))))).pull (.there (.there (.there (.there (.there (.there (.there (.there (.there .here)))))))))).pull (.there (.there (.there (.there (.there (.there (.there (.there (.there .here)))))))))⟩

      case rest =>
        clear H HG HGC
        obtain ⟨v, a, n, c, B, cp, cq, cv, ca, cn, cc, C, rfl, rfl, hG, hGC, H⟩ := hcut.out
        unfold duoB at H
        have HG := Lib.hid hG
        have HGC := Lib.hid hGC
        clear hcut hG hGC
        have hnx1 := HG.out.1.nx.1
        have hfew := HG.out.1.few
        obtain ⟨xk, ⟨xs, xw, xe, xu, xl, xn, xd⟩, xm⟩ := x
        simp only at H hrow ⊢
        obtain ⟨fo, fb, hfv⟩ := findV_form B.L xs
        have F1 := AnsH.at8 H (find_H (p := p) (v := v) (nx := B.nx) (L := B.L) (n := B.L.length) xs (by (repeat (first | (with_reducible exact List.mem_cons_self) | with_reducible apply List.mem_cons_of_mem))) (by (repeat (first | (with_reducible exact List.mem_cons_self) | with_reducible apply List.mem_cons_of_mem))) (by omega) rfl (by omega))
        have F2 := Lib.hid (fun (l' : List Thing) (x1 : RBk q (.slice a n c) B.nx ∈ l') (x2 : OfT (.slice a n c) n B.L ∈ l') => rfind4_H (W := w) (l := l') (p := q) (a := a) (n := n) (c := c) (nx := B.nx) (L := B.L) xs x1 x2 HG.out.2 (by have := HG.out.2; omega))
        rw [hfv] at F1 F2
        clear hfv
        have q1 : (fb != fb) = false := by cases fb <;> rfl
        go_wp2_with (first | ((with_reducible show wpList _ _ _ (_ :: _) _ _); (with_reducible apply wpl_allocRH row_ofr); (· rfl); (· exact H); (clear H; intro pf _ H); (simp only [Act.put, List.setIfInBounds_toArray, List.set_cons_zero, List.set_cons_succ])) | go_skip | ((with_reducible refine AnsH.call (by assumption) H ?_); clear H; intro _ H) | ((with_reducible show wpList _ _ _ (_ :: _) _ _); (with_reducible apply wpl_storeRH row_ofr); (· rfl); (· rfl); (· rfl); (· with_reducible exact ofr_cells ..); (· exact H); (· (repeat (first | (with_reducible exact List.mem_cons_self) | with_reducible apply List.mem_cons_of_mem))); (· (simp only [ofrA_sz, Nat.reduceAdd, Nat.reduceLeDiff, Nat.le_refl]; done)); (· with_reducible exact ofr_splice ..); (· (repeat (first | (with_reducible exact Repl.here) | with_reducible apply Repl.there))); (clear H; intro _ H); (simp only [Act.put, List.setIfInBounds_toArray, List.set_cons_zero, List.set_cons_succ])) | ((with_reducible show wpList _ _ _ (_ :: _) _ _); (with_reducible apply wpl_loadCH); (· first | exact cell_u64 | exact cell_party | exact cell_cur | exact cell_i64); (· rfl); (· rfl); (· exact H); (· (repeat (first | (with_reducible exact List.mem_cons_self) | with_reducible apply List.mem_cons_of_mem))); (· with_reducible first | exact ofr_g0 .. | exact ofr_g1 .. | exact ofr_g2 .. | exact ofr_g3 .. | exact ofr_g4 ..); (simp only [Act.put, List.setIfInBounds_toArray, List.set_cons_zero, List.set_cons_succ])))
        clear F1
        have F3 := AnsH.at8 H (F2.out _ (by (repeat (first | (with_reducible exact List.mem_cons_self) | with_reducible apply List.mem_cons_of_mem))) (by (repeat (first | (with_reducible exact List.mem_cons_self) | with_reducible apply List.mem_cons_of_mem))))
        clear F2
        go_wp2_with (first | ((with_reducible show wpList _ _ _ (_ :: _) _ _); (with_reducible apply wpl_allocRH row_ofr); (· rfl); (· exact H); (clear H; intro pg _ H); (simp only [Act.put, List.setIfInBounds_toArray, List.set_cons_zero, List.set_cons_succ])) | go_skip | ((with_reducible refine AnsH.call (by assumption) H ?_); clear H; intro _ H) | ((with_reducible show wpList _ _ _ (_ :: _) _ _); (with_reducible apply wpl_storeRH row_ofr); (· rfl); (· rfl); (· rfl); (· with_reducible exact ofr_cells ..); (· exact H); (· (repeat (first | (with_reducible exact List.mem_cons_self) | with_reducible apply List.mem_cons_of_mem))); (· (simp only [ofrA_sz, Nat.reduceAdd, Nat.reduceLeDiff, Nat.le_refl]; done)); (· with_reducible exact ofr_splice ..); (· (repeat (first | (with_reducible exact Repl.here) | with_reducible apply Repl.there))); (clear H; intro _ H); (simp only [Act.put, List.setIfInBounds_toArray, List.set_cons_zero, List.set_cons_succ])) | ((with_reducible show wpList _ _ _ (_ :: _) _ _); (with_reducible apply wpl_loadCH); (· first | exact cell_u64 | exact cell_party | exact cell_cur | exact cell_i64); (· rfl); (· rfl); (· exact H); (· (repeat (first | (with_reducible exact List.mem_cons_self) | with_reducible apply List.mem_cons_of_mem))); (· with_reducible first | exact ofr_g0 .. | exact ofr_g1 .. | exact ofr_g2 .. | exact ofr_g3 .. | exact ofr_g4 ..); (simp only [Act.put, List.setIfInBounds_toArray, List.set_cons_zero, List.set_cons_succ])))
        clear F3
        refine (best_H (p := p) (v := v) (B := B) xe xu HG.out.1 (by (repeat (first | (with_reducible exact List.mem_cons_self) | with_reducible apply List.mem_cons_of_mem))) (by (repeat (first | (with_reducible exact List.mem_cons_self) | with_reducible apply List.mem_cons_of_mem))) H).mono ?_
        clear H
        rintro e w5 ⟨bv, rfl, H⟩
        obtain ⟨ba2, bc, rfl, _, _⟩ := OwnT.formO (H.ok _ List.mem_cons_self)
        have hbl := bestO_len B.L xe xu
        have SM := AnsH.at8 H (same4_A (p := p) (rp := q) (v := v) (b := a) (d := c) (nx := B.nx) (L := B.L) (n := B.L.length) (by (repeat (first | (with_reducible exact List.mem_cons_self) | with_reducible apply List.mem_cons_of_mem))) (by (repeat (first | (with_reducible exact List.mem_cons_self) | with_reducible apply List.mem_cons_of_mem))) (by rw [HG.out.2]; (repeat (first | (with_reducible exact List.mem_cons_self) | with_reducible apply List.mem_cons_of_mem))) (by rw [HG.out.2]; (repeat (first | (with_reducible exact List.mem_cons_self) | with_reducible apply List.mem_cons_of_mem))) (by omega) rfl (by omega))
        go_wp2_with (first | go_skip | ((with_reducible show wpList _ _ _ (_ :: _) _ _); (with_reducible apply wpl_loadRH row_ofr); (· rfl); (· rfl); (· exact H); (· (repeat (first | (with_reducible exact List.mem_cons_self) | with_reducible apply List.mem_cons_of_mem))); (· (simp only [ofrA_sz, Nat.reduceAdd, Nat.reduceLeDiff, Nat.le_refl]; done)); (· with_reducible exact ofrA_all ..); (simp only [Act.put, List.setIfInBounds_toArray, List.set_cons_zero, List.set_cons_succ])) | ((with_reducible show wpList _ _ _ (_ :: _) _ _); (with_reducible apply wpl_neqO); (· rfl); (· rfl); (· rfl); (simp only [Act.put, List.setIfInBounds_toArray, List.set_cons_zero, List.set_cons_succ])) | ((with_reducible refine AnsH.call (by assumption) H ?_); clear H; intro _ H) | ((with_reducible show wpList _ _ _ (_ :: _) _ _); (with_reducible apply wpl_loadCH); (· first | exact cell_u64 | exact cell_party | exact cell_cur | exact cell_i64); (· rfl); (· rfl); (· exact H); (· (repeat (first | (with_reducible exact List.mem_cons_self) | with_reducible apply List.mem_cons_of_mem))); (· with_reducible first | exact ofr_g0 .. | exact ofr_g1 .. | exact ofr_g2 .. | exact ofr_g3 .. | exact ofr_g4 ..); (simp only [Act.put, List.setIfInBounds_toArray, List.set_cons_zero, List.set_cons_succ])))
        clear SM
        refine (rbest4_H (p := q) (a := a) (n := n) (c := c) (nx := B.nx) (L := B.L) xe xu (by (repeat (first | (with_reducible exact List.mem_cons_self) | with_reducible apply List.mem_cons_of_mem))) (by (repeat (first | (with_reducible exact List.mem_cons_self) | with_reducible apply List.mem_cons_of_mem))) HG.out.2 (by have := HG.out.2; omega) HG.out.1.oks8 H).mono ?_
        clear H
        rintro e w6 ⟨a4, n4, c4, rfl, hl4, H⟩
        subst hl4
        have SO := AnsH.at8 H (sameOffers_P (L := bestO B.L xe xu) ba2 a4 (bestO B.L xe xu).length bc c4 rfl (by omega) (fun w' H' => H'.ownRd (by (repeat (first | (with_reducible exact List.mem_cons_self) | with_reducible apply List.mem_cons_of_mem)))) (fun w' H' => H'.rowRd (by (repeat (first | (with_reducible exact List.mem_cons_self) | with_reducible apply List.mem_cons_of_mem)))))
        go_wp2_with (first | go_skip | ((with_reducible refine AnsH.call (by assumption) H ?_); clear H; intro _ H))
        clear SO
        replace H := H.pull (.there .here)
        refine (lay_Of _ [] ba2 _ bc (by simp) (Book.new (H.alloc #[.slice none 0 0] 60))).mono ?_
        clear H
        rintro e w7 ⟨rfl, pg1, BK⟩
        go_wp2_with (go_skip)
        refine (Book.allO (p := p) (v := v) (nx := B.nx) (L := B.L) (n := B.L.length) (by (repeat (first | (with_reducible exact List.mem_cons_self) | with_reducible apply List.mem_cons_of_mem))) (by (repeat (first | (with_reducible exact List.mem_cons_self) | with_reducible apply List.mem_cons_of_mem))) (by omega) rfl (by omega) BK).mono ?_
        clear BK
        rintro e w8 ⟨a7, c7, rfl, BK⟩
        go_wp2_with (go_skip)
        refine (lay_Of _ _ a7 _ c7 (by simp) BK).mono ?_
        clear BK
        rintro e w9 ⟨rfl, pg2, BK⟩
        go_wp2_with (go_skip)
        refine (Book.apart BK (by simp)).mono ?_
        clear BK
        rintro e w10 ⟨rfl, H⟩
        go_wp2_with (go_skip)
        replace H := (((H.drop .here).drop .here).drop .here)
        replace H := ((H.drop (.there (.there (.there (.there .here))))).drop (.there (.there (.there (.there .here)))))
        go_roundw
        case rel => exact ⟨k + 1, v, a, n, c, B, cp, cq, cv, ca, cn, cc, C, by omega, by go_num, rfl, rfl, HG.out, HGC.out, H⟩
        case measure => simp [intOf]; omega
    · obtain rfl : k = N := by omega
      have hc1 := HGC.out.1.nx.1
      have hc2 := HGC.out.1.few
      have hb1 := HG.out.1.nx.1
      have hb2 := HG.out.1.few
      have SM := AnsH.at8 H (same4_A (p := cp) (rp := cq) (v := cv) (b := ca) (d := cc) (nx := C.nx) (L := C.L) (n := C.L.length) (by (repeat (first | (with_reducible exact List.mem_cons_self) | with_reducible apply List.mem_cons_of_mem))) (by (repeat (first | (with_reducible exact List.mem_cons_self) | with_reducible apply List.mem_cons_of_mem))) (by rw [HGC.out.2]; (repeat (first | (with_reducible exact List.mem_cons_self) | with_reducible apply List.mem_cons_of_mem))) (by rw [HGC.out.2]; (repeat (first | (with_reducible exact List.mem_cons_self) | with_reducible apply List.mem_cons_of_mem))) (by omega) rfl (by omega))
      have SM2 := AnsH.at8 H (same4_A (p := p) (rp := q) (v := v) (b := a) (d := c) (nx := B.nx) (L := B.L) (n := B.L.length) (by (repeat (first | (with_reducible exact List.mem_cons_self) | with_reducible apply List.mem_cons_of_mem))) (by (repeat (first | (with_reducible exact List.mem_cons_self) | with_reducible apply List.mem_cons_of_mem))) (by rw [HG.out.2]; (repeat (first | (with_reducible exact List.mem_cons_self) | with_reducible apply List.mem_cons_of_mem))) (by rw [HG.out.2]; (repeat (first | (with_reducible exact List.mem_cons_self) | with_reducible apply List.mem_cons_of_mem))) (by omega) rfl (by omega))
      clear hc1 hc2 hb1 hb2
      go_wp2_with (first | go_skip | ((with_reducible refine AnsH.call (by assumption) H ?_); clear H; intro _ H) | ((refine (lives04_H H).mono ?_); clear H; rintro _ _ ⟨rfl, H⟩))
      go_ret
      exact ⟨rfl, H.low⟩
end
end Go.Proofs.Ytacglcpjbepfnaa
