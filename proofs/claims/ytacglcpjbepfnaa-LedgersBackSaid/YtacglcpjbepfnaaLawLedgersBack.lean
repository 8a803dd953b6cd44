/- The walk of LedgersBack. -/
import Derived.Test.YtacglcpjbepfnaaLawLedgersPush
import Derived.Test.YtacglcpjbepfnaaLedBack
namespace Go.Proofs.Ytacglcpjbepfnaa
open Go.RowKit
set_option linter.unusedSimpArgs false
set_option linter.unusedVariables false
theorem lineC_line (L : List Lin) (a b c : Int) : ∃ x1 x2 x3 x4, lineC L a b c = line x1 x2 x3 x4 (debOf L a b c) := by
  unfold lineC
  cases h : isLine L a b c
  · exact ⟨0, 0, 0, 0, by rw [show debOf L a b c = 0 from (Lgr.Good.noLine (S := ⟨[], L⟩) h).2.2]; rfl⟩
  · exact ⟨a, b, c, limOf L a b c, rfl⟩
set_option maxRecDepth 100000
set_option maxHeartbeats 8000000
theorem ledgersBack_great (w : World) (ea : Option Addr) (an ac : Nat) (k a b c : Nat) (n : Int) (hn : 120 < an) (hm : an ≤ maxLen) :
    Calls Try.prog 4 #[.slice ea an ac, .agg (act k a b c n)] w fun e w' => e = .returned (.bool true) ∧ Below w.heap.size w w' := by
  have H := Heap.start w
  have hcnt : 120 < (an : Int) := by omega
  unfold maxLen at hm
  go_enter Try.func4, Try.ntmps4
  go_wp2_with (first | go_skip | ((with_reducible show wpList _ _ _ (_ :: _) _ _); (with_reducible apply wpl_boxRH); (· rfl); (· rfl); (· exact H); (clear H; intro px _ H); (simp only [Act.put, List.setIfInBounds_toArray, List.set_cons_zero, List.set_cons_succ])))
  refine (lives03_H H).mono ?_
  clear H
  rintro e w7 ⟨rfl, H⟩
  go_wp2_with (go_skip)
  go_ret
  exact ⟨rfl, H.low⟩
theorem ledgersBack_no (w : World) (ea : Option Addr) (an ac : Nat) (F : List LAct) (k a b c : Nat) (n : Int) (hl : F.length = an) (hn : an ≤ 120) (hF : ∀ x ∈ F, ActOk x) (R : Rd w ea (actL F)) (ho : ActOk ⟨k, a, b, c, n⟩) (hp : pushE (madeS F) a b c n ≠ 0) :
    Calls Try.prog 4 #[.slice ea an ac, .agg (act k a b c n)] w fun e w' => e = .returned (.bool true) ∧ Below w.heap.size w w' := by
  have H := Heap.start w
  obtain ⟨_, o1, o2, o3, o4⟩ := ho
  simp only at o1 o2 o3 o4
  have hcnt : ¬ (120 < (an : Int)) := by omega
  have HR := Lib.hid R
  have HL := Lib.hid hl
  have HF := Lib.hid hF
  have HO := Lib.hid o4
  have HP := Lib.hid hp
  clear R hl hF hp o4
  go_enter Try.func4, Try.ntmps4
  go_wp2_with (first | go_skip | ((with_reducible show wpList _ _ _ (_ :: _) _ _); (with_reducible apply wpl_boxRH); (· rfl); (· rfl); (· exact H); (clear H; intro px _ H); (simp only [Act.put, List.setIfInBounds_toArray, List.set_cons_zero, List.set_cons_succ])))
  refine (made_H ea an ac F HL.out hn HF.out (fun l' w' _ H' => HR.out.below H'.low) H).mono ?_
  clear H
  rintro e w1 ⟨p, q, rfl, H⟩
  have HG := Lib.hid (madeS_good F)
  generalize hS : madeS F = S at *
  clear hS
  go_wp2_with (go_skip)
  refine (lcopy_H (p := p) (q := q) (P := S.P) (S := S) H (by (repeat (first | (with_reducible exact List.mem_cons_self) | with_reducible apply List.mem_cons_of_mem))) (by (repeat (first | (with_reducible exact List.mem_cons_self) | with_reducible apply List.mem_cons_of_mem)))).mono ?_
  clear H
  rintro e w2 ⟨p', q', rfl, H⟩
  go_wp2_with (first | go_skip | ((with_reducible show wpList _ _ _ (_ :: _) _ _); (with_reducible apply wpl_loadCH); (· first | exact cell_party | exact cell_cur | exact cell_i64); (· rfl); (· rfl); (· exact H); (· (repeat (first | (with_reducible exact List.mem_cons_self) | with_reducible apply List.mem_cons_of_mem))); (· (with_reducible first | exact act_g0 .. | exact act_g1 .. | exact act_g2 .. | exact act_g3 .. | exact act_g4 .. | exact act_g5 .. | exact act_g6 .. | exact act_g7 .. | exact act_g8 .. | exact act_g9 .. | exact act_g10 .. | exact act_g11 .. | exact act_g12 .. | exact act_g13 .. | exact act_g14 .. | exact act_g15 .. | exact act_g16 .. | exact act_g17 .. | exact act_g18 .. | exact act_g19 ..)); (simp only [Act.put, List.setIfInBounds_toArray, List.set_cons_zero, List.set_cons_succ])))
  refine (lpush_H (p := p) (q := q) (S := S) a b c n o1 o2 o3 HO.out HG.out (H.top2 (.there (.there .here)) (.there (.there .here)))).mono ?_
  clear H
  rintro e w3 ⟨rfl, H⟩
  have e1 : (pushE S a b c n != 0) = true := by simpa using HP.out
  generalize pushE S a b c n = pe at *
  go_wp2_with (go_skip)
  refine (lives03_H H).mono ?_
  clear H
  rintro e w7 ⟨rfl, H⟩
  go_wp2_with (go_skip)
  go_ret
  exact ⟨rfl, H.low⟩
theorem ledgersBack_yes (w : World) (ea : Option Addr) (an ac : Nat) (F : List LAct) (k a b c : Nat) (n : Int) (hl : F.length = an) (hn : an ≤ 120) (hF : ∀ x ∈ F, ActOk x) (R : Rd w ea (actL F)) (ho : ActOk ⟨k, a, b, c, n⟩) (hp : pushE (madeS F) a b c n = 0) :
    Calls Try.prog 4 #[.slice ea an ac, .agg (act k a b c n)] w fun e w' => e = .returned (.bool true) ∧ Below w.heap.size w w' := by
  have H := Heap.start w
  obtain ⟨_, o1, o2, o3, o4⟩ := ho
  simp only at o1 o2 o3 o4
  have hcnt : ¬ (120 < (an : Int)) := by omega
  have HR := Lib.hid R
  have HL := Lib.hid hl
  have HF := Lib.hid hF
  have HO := Lib.hid o4
  have HP := Lib.hid hp
  clear R hl hF hp o4
  go_enter Try.func4, Try.ntmps4
  simp only [List.append_eq, List.cons_append, List.nil_append]
  go_wp2_with (first | go_skip | ((with_reducible show wpList _ _ _ (_ :: _) _ _); (with_reducible apply wpl_boxRH); (· rfl); (· rfl); (· exact H); (clear H; intro px _ H); (simp only [Act.put, List.setIfInBounds_toArray, List.set_cons_zero, List.set_cons_succ])))
  refine (made_H ea an ac F HL.out hn HF.out (fun l' w' _ H' => HR.out.below H'.low) H).mono ?_
  clear H
  rintro e w1 ⟨p, q, rfl, H⟩
  have HG := Lib.hid (madeS_good F)
  generalize hS : madeS F = S at *
  clear hS
  go_wp2_with (go_skip)
  refine (lcopy_H (p := p) (q := q) (P := S.P) (S := S) H (by (repeat (first | (with_reducible exact List.mem_cons_self) | with_reducible apply List.mem_cons_of_mem))) (by (repeat (first | (with_reducible exact List.mem_cons_self) | with_reducible apply List.mem_cons_of_mem)))).mono ?_
  clear H
  rintro e w2 ⟨p', q', rfl, H⟩
  go_wp2_with (first | go_skip | ((with_reducible show wpList _ _ _ (_ :: _) _ _); (with_reducible apply wpl_loadCH); (· first | exact cell_party | exact cell_cur | exact cell_i64); (· rfl); (· rfl); (· exact H); (· (repeat (first | (with_reducible exact List.mem_cons_self) | with_reducible apply List.mem_cons_of_mem))); (· (with_reducible first | exact act_g0 .. | exact act_g1 .. | exact act_g2 .. | exact act_g3 .. | exact act_g4 .. | exact act_g5 .. | exact act_g6 .. | exact act_g7 .. | exact act_g8 .. | exact act_g9 .. | exact act_g10 .. | exact act_g11 .. | exact act_g12 .. | exact act_g13 .. | exact act_g14 .. | exact act_g15 .. | exact act_g16 .. | exact act_g17 .. | exact act_g18 .. | exact act_g19 ..)); (simp only [Act.put, List.setIfInBounds_toArray, List.set_cons_zero, List.set_cons_succ])))
  refine (lpush_H (p := p) (q := q) (S := S) a b c n o1 o2 o3 HO.out HG.out (H.top2 (.there (.there .here)) (.there (.there .here)))).mono ?_
  clear H
  rintro e w3 ⟨rfl, H⟩
  rw [HP.out]
  go_wp2_with (first | go_skip | ((with_reducible show wpList _ _ _ (_ :: _) _ _); (with_reducible apply wpl_loadCH); (· first | exact cell_party | exact cell_cur | exact cell_i64); (· rfl); (· rfl); (· exact H); (· (repeat (first | (with_reducible exact List.mem_cons_self) | with_reducible apply List.mem_cons_of_mem))); (· (with_reducible first | exact act_g0 .. | exact act_g1 .. | exact act_g2 .. | exact act_g3 .. | exact act_g4 .. | exact act_g5 .. | exact act_g6 .. | exact act_g7 .. | exact act_g8 .. | exact act_g9 .. | exact act_g10 .. | exact act_g11 .. | exact act_g12 .. | exact act_g13 .. | exact act_g14 .. | exact act_g15 .. | exact act_g16 .. | exact act_g17 .. | exact act_g18 .. | exact act_g19 ..)); (simp only [Act.put, List.setIfInBounds_toArray, List.set_cons_zero, List.set_cons_succ])))
  have hP1 := push_P S a b c n
  have hG1 := HG.out.push a b c n
  have hE2 := push_back HG.out HP.out
  have hG2 := hG1.push b a c n
  have hR2 := push_back_room HG.out HP.out
  have hQ2 := push_back_pos HG.out HP.out
  have hL2 := push_back_lines HG.out HP.out
  have hP2 := push_P (pushS S a b c n) b a c n
  rw [hP1] at hP2
  rw [← hP1] at H
  refine (lpush_H (p := p) (q := q) (S := pushS S a b c n) b a c n o2 o1 o3 HO.out hG1 H).mono ?_
  clear H
  rintro e w4 ⟨rfl, H⟩
  rw [hE2]
  rw [hP1] at H
  generalize pushS (pushS S a b c n) b a c n = S2 at *
  obtain ⟨P2, L2⟩ := S2
  simp only at hP2
  subst hP2
  simp only at H hQ2 hL2
  clear hP1 hG1 hE2
  have HG2 := Lib.hid hG2
  have HR2 := Lib.hid hR2
  have HQ2 := Lib.hid hQ2
  have HL2 := Lib.hid hL2
  clear hG2 hR2 hQ2 hL2
  obtain ⟨x1, x2, x3, x4, hx⟩ := lineC_line S.L a b c
  obtain ⟨y1, y2, y3, y4, hy⟩ := lineC_line S.L b a c
  have l1 := lline_H (W := w) (l := [LdC p S.P (some q), LdM q L2, LdC p' S.P (some q'), LdM q' S.L, Cel px (act k a b c n) 26]) (p := p') (q := q') (S := S) a b c o1 o2 o3 HG.out (by (repeat (first | (with_reducible exact List.mem_cons_self) | with_reducible apply List.mem_cons_of_mem))) (by (repeat (first | (with_reducible exact List.mem_cons_self) | with_reducible apply List.mem_cons_of_mem)))
  rw [hx] at l1
  have hn1 := (HG.out.nums a b c).1
  have hn2 := (HG.out.nums b a c).1
  clear hx
  generalize hd1 : debOf S.L a b c = d1 at *
  generalize hd2 : debOf S.L b a c = d2 at *
  have HD := Lib.hid (And.intro hd1 hd2)
  clear hd1 hd2
  generalize isLine S.L a b c = i1 at *
  go_wp2_with (first | go_skip | ((with_reducible refine AnsH.call (by assumption) H ?_); clear H; intro _ H) | ((with_reducible show wpList _ _ _ (_ :: _) _ _); (with_reducible apply wpl_loadCH); (· first | exact cell_party | exact cell_cur | exact cell_i64); (· rfl); (· rfl); (· exact H); (· (repeat (first | (with_reducible exact List.mem_cons_self) | with_reducible apply List.mem_cons_of_mem))); (· (with_reducible first | exact act_g0 .. | exact act_g1 .. | exact act_g2 .. | exact act_g3 .. | exact act_g4 .. | exact act_g5 .. | exact act_g6 .. | exact act_g7 .. | exact act_g8 .. | exact act_g9 .. | exact act_g10 .. | exact act_g11 .. | exact act_g12 .. | exact act_g13 .. | exact act_g14 .. | exact act_g15 .. | exact act_g16 .. | exact act_g17 .. | exact act_g18 .. | exact act_g19 ..)); (simp only [Act.put, List.setIfInBounds_toArray, List.set_cons_zero, List.set_cons_succ])) | ((with_reducible show wpList _ _ _ (_ :: _) _ _); (with_reducible apply wpl_allocRH row_line); (· rfl); (· exact H); (clear H; intro p7 _ H); (simp only [Act.put, List.setIfInBounds_toArray, List.set_cons_zero, List.set_cons_succ])) | ((with_reducible show wpList _ _ _ (_ :: _) _ _); (with_reducible apply wpl_storeRH row_line); (· rfl); (· rfl); (· rfl); (· with_reducible exact line_cells ..); (· exact H); (· (repeat (first | (with_reducible exact List.mem_cons_self) | with_reducible apply List.mem_cons_of_mem))); (· (simp only [line_sz, Nat.reduceAdd, Nat.reduceLeDiff, Nat.le_refl]; done)); (· with_reducible exact line_splice ..); (· (repeat (first | (with_reducible exact Repl.here) | with_reducible apply Repl.there))); (clear H; intro _ H); (simp only [Act.put, List.setIfInBounds_toArray, List.set_cons_zero, List.set_cons_succ])))
  clear l1
  have l2 := lline_H (W := w) (l := Cel p7 (line x1 x2 x3 x4 d1) 39 :: [LdC p S.P (some q), LdM q L2, LdC p' S.P (some q'), LdM q' S.L, Cel px (act k a b c n) 26]) (p := p') (q := q') (S := S) b a c o2 o1 o3 HG.out (by (repeat (first | (with_reducible exact List.mem_cons_self) | with_reducible apply List.mem_cons_of_mem))) (by (repeat (first | (with_reducible exact List.mem_cons_self) | with_reducible apply List.mem_cons_of_mem)))
  rw [hy] at l2
  clear hy
  generalize isLine S.L b a c = i2 at *
  refine (l2 _ H).mono ?_
  clear H l2
  rintro _ w5 ⟨rfl, H⟩
  go_wp2_with (first | go_skip | ((with_reducible show wpList _ _ _ (_ :: _) _ _); (with_reducible apply wpl_allocRH row_line); (· rfl); (· exact H); (clear H; intro p9 _ H); (simp only [Act.put, List.setIfInBounds_toArray, List.set_cons_zero, List.set_cons_succ])) | ((with_reducible show wpList _ _ _ (_ :: _) _ _); (with_reducible apply wpl_storeRH row_line); (· rfl); (· rfl); (· rfl); (· with_reducible exact line_cells ..); (· exact H); (· (repeat (first | (with_reducible exact List.mem_cons_self) | with_reducible apply List.mem_cons_of_mem))); (· (simp only [line_sz, Nat.reduceAdd, Nat.reduceLeDiff, Nat.le_refl]; done)); (· with_reducible exact line_splice ..); (· (repeat (first | (with_reducible exact Repl.here) | with_reducible apply Repl.there))); (clear H; intro _ H); (simp only [Act.put, List.setIfInBounds_toArray, List.set_cons_zero, List.set_cons_succ])) | ((with_reducible show wpList _ _ _ (_ :: _) _ _); (with_reducible apply wpl_loadCH); (· first | exact cell_party | exact cell_cur | exact cell_i64); (· rfl); (· rfl); (· exact H); (· (repeat (first | (with_reducible exact List.mem_cons_self) | with_reducible apply List.mem_cons_of_mem))); (· (with_reducible first | exact act_g0 .. | exact act_g1 .. | exact act_g2 .. | exact act_g3 .. | exact act_g4 .. | exact act_g5 .. | exact act_g6 .. | exact act_g7 .. | exact act_g8 .. | exact act_g9 .. | exact act_g10 .. | exact act_g11 .. | exact act_g12 .. | exact act_g13 .. | exact act_g14 .. | exact act_g15 .. | exact act_g16 .. | exact act_g17 .. | exact act_g18 .. | exact act_g19 ..)); (simp only [Act.put, List.setIfInBounds_toArray, List.set_cons_zero, List.set_cons_succ])))
  have r1 := lroom_H (W := w) (l := [Cel p9 (line y1 y2 y3 y4 d2) 39, Cel p7 (line x1 x2 x3 x4 d1) 39, LdC p S.P (some q), LdM q L2, LdC p' S.P (some q'), LdM q' S.L, Cel px (act k a b c n) 26]) (p := p) (q := q) (S := ⟨S.P, L2⟩) a b c o1 o2 o3 HG2.out (by (repeat (first | (with_reducible exact List.mem_cons_self) | with_reducible apply List.mem_cons_of_mem))) (by (repeat (first | (with_reducible exact List.mem_cons_self) | with_reducible apply List.mem_cons_of_mem)))
  have r2 := lroom_H (W := w) (l := [Cel p9 (line y1 y2 y3 y4 d2) 39, Cel p7 (line x1 x2 x3 x4 d1) 39, LdC p S.P (some q), LdM q L2, LdC p' S.P (some q'), LdM q' S.L, Cel px (act k a b c n) 26]) (p := p') (q := q') (S := S) a b c o1 o2 o3 HG.out (by (repeat (first | (with_reducible exact List.mem_cons_self) | with_reducible apply List.mem_cons_of_mem))) (by (repeat (first | (with_reducible exact List.mem_cons_self) | with_reducible apply List.mem_cons_of_mem)))
  have r3 := lroom_H (W := w) (l := [Cel p9 (line y1 y2 y3 y4 d2) 39, Cel p7 (line x1 x2 x3 x4 d1) 39, LdC p S.P (some q), LdM q L2, LdC p' S.P (some q'), LdM q' S.L, Cel px (act k a b c n) 26]) (p := p) (q := q) (S := ⟨S.P, L2⟩) b a c o2 o1 o3 HG2.out (by (repeat (first | (with_reducible exact List.mem_cons_self) | with_reducible apply List.mem_cons_of_mem))) (by (repeat (first | (with_reducible exact List.mem_cons_self) | with_reducible apply List.mem_cons_of_mem)))
  have r4 := lroom_H (W := w) (l := [Cel p9 (line y1 y2 y3 y4 d2) 39, Cel p7 (line x1 x2 x3 x4 d1) 39, LdC p S.P (some q), LdM q L2, LdC p' S.P (some q'), LdM q' S.L, Cel px (act k a b c n) 26]) (p := p') (q := q') (S := S) b a c o2 o1 o3 HG.out (by (repeat (first | (with_reducible exact List.mem_cons_self) | with_reducible apply List.mem_cons_of_mem))) (by (repeat (first | (with_reducible exact List.mem_cons_self) | with_reducible apply List.mem_cons_of_mem)))
  rw [HR2.out.1] at r1
  rw [HR2.out.2] at r3
  have q1 := lpos_H (W := w) (l := [Cel p9 (line y1 y2 y3 y4 d2) 39, Cel p7 (line x1 x2 x3 x4 d1) 39, LdC p S.P (some q), LdM q L2, LdC p' S.P (some q'), LdM q' S.L, Cel px (act k a b c n) 26]) (p := p) (q := q) (S := ⟨S.P, L2⟩) a c HG2.out (.there (.there .here)) (.there (.there .here))
  have q2 := lpos_H (W := w) (l := [Cel p9 (line y1 y2 y3 y4 d2) 39, Cel p7 (line x1 x2 x3 x4 d1) 39, LdC p S.P (some q), LdM q L2, LdC p' S.P (some q'), LdM q' S.L, Cel px (act k a b c n) 26]) (p := p') (q := q') (S := S) a c HG.out (.there (.there (.there (.there .here)))) (.there (.there (.there (.there .here))))
  have q3 := lpos_H (W := w) (l := [Cel p9 (line y1 y2 y3 y4 d2) 39, Cel p7 (line x1 x2 x3 x4 d1) 39, LdC p S.P (some q), LdM q L2, LdC p' S.P (some q'), LdM q' S.L, Cel px (act k a b c n) 26]) (p := p) (q := q) (S := ⟨S.P, L2⟩) b c HG2.out (.there (.there .here)) (.there (.there .here))
  have q4 := lpos_H (W := w) (l := [Cel p9 (line y1 y2 y3 y4 d2) 39, Cel p7 (line x1 x2 x3 x4 d1) 39, LdC p S.P (some q), LdM q L2, LdC p' S.P (some q'), LdM q' S.L, Cel px (act k a b c n) 26]) (p := p') (q := q') (S := S) b c HG.out (.there (.there (.there (.there .here)))) (.there (.there (.there (.there .here))))
  simp only at q1 q3
  rw [HQ2.out] at q1 q3
  generalize roomOf S a b c = v1 at *
  generalize roomOf S b a c = v2 at *
  generalize posL S.L (a : Int) c = v3 at *
  generalize posL S.L (b : Int) c = v4 at *
  have t1 : (v1 != v1) = false := by simp
  have t2 : (v2 != v2) = false := by simp
  have t3 : (v3 != v3) = false := by simp
  have t4 : (v4 != v4) = false := by simp
  go_wp2_with (go_skip)
  refine wp_region_H H (by kernel_rfl) (by kernel_rfl) ?_
  repeat (first | go_big_quiet_skip | ((with_reducible apply wpQ_loadCH); (· first | exact cell_party | exact cell_cur | exact cell_i64); (· rfl); (· rfl); (· (repeat (first | (with_reducible exact List.mem_cons_self) | with_reducible apply List.mem_cons_of_mem))); (· (with_reducible first | exact act_g0 .. | exact act_g1 .. | exact act_g2 .. | exact act_g3 .. | exact act_g4 .. | exact act_g5 .. | exact act_g6 .. | exact act_g7 .. | exact act_g8 .. | exact act_g9 .. | exact act_g10 .. | exact act_g11 .. | exact act_g12 .. | exact act_g13 .. | exact act_g14 .. | exact act_g15 .. | exact act_g16 .. | exact act_g17 .. | exact act_g18 .. | exact act_g19 ..)); (simp only [Act.put, List.setIfInBounds_toArray, List.set_cons_zero, List.set_cons_succ])) | go_big_quiet_step ((with_reducible first | exact AnsH.quiet (by assumption) | exact Ans.quietH (by assumption))))
  refine wpQuiet_nil ?_
  clear H
  intro _ H
  clear r1 r2 r3 r4 q1 q2 q3 q4
  clear t1 t2 t3 t4
  have HDP := Lib.hid (And.intro hn1 hn2)
  clear hn1 hn2
  by_cases k1 : 0 < d1
  · by_cases k2 : 0 < d2
    · have g1 : decide (d1 > 0) = true := by simpa using k1
      have g2 : decide (d2 > 0) = true := by simpa using k2
      go_wp2_with (first | go_skip | ((with_reducible show wpList _ _ _ (_ :: _) _ _); (with_reducible apply wpl_loadCH); (· exact cell_i64); (· rfl); (· rfl); (· exact H); (· (repeat (first | (with_reducible exact List.mem_cons_self) | with_reducible apply List.mem_cons_of_mem))); (· with_reducible exact line_g4 ..); (simp only [Act.put, List.setIfInBounds_toArray, List.set_cons_zero, List.set_cons_succ])))
      refine (lives03_H H).mono ?_
      clear H
      rintro e w7 ⟨rfl, H⟩
      go_wp2_with (first | go_skip)
      go_ret
      exact ⟨rfl, H.low⟩
    · have hz : d2 = 0 := by have := HDP.out.2; omega
      have g1 : decide (d1 > 0) = true := by simpa using k1
      have g2 : decide (d2 > 0) = false := by simpa using k2
      have hLL : L2 = S.L := HL2.out (.inr hz)
      clear hz
      subst hLL
      go_wp2_with (first | go_skip | ((with_reducible show wpList _ _ _ (_ :: _) _ _); (with_reducible apply wpl_loadCH); (· exact cell_i64); (· rfl); (· rfl); (· exact H); (· (repeat (first | (with_reducible exact List.mem_cons_self) | with_reducible apply List.mem_cons_of_mem))); (· with_reducible exact line_g4 ..); (simp only [Act.put, List.setIfInBounds_toArray, List.set_cons_zero, List.set_cons_succ])))
      refine (llines_H (p := p) (q := q) (S := S) HG.out (H.top2 (.there (.there .here)) (.there (.there .here)))).mono ?_
      clear H
      rintro e w4 ⟨u1, c1, rfl, hc1, hm1, H⟩
      go_wp2_with (first | go_skip)
      refine (llines_H (p := p') (q := q') (S := S) HG.out (H.top2 (.there (.there (.there (.there (.there .here))))) (.there (.there (.there (.there (.there .here))))))).mono ?_
      clear H
      rintro e w5 ⟨u2, c2, rfl, hc2, hm2, H⟩
      go_wp2_with (first | go_skip)
      refine (sameLines_P (W := w) (some ⟨u1, 0, none⟩) (some ⟨u2, 0, none⟩) S.L.length S.L.length c1 c2 rfl rfl (by have := HG.out.few; omega) (by have := HG.out.few; omega) (fun w' H' => H'.slRd (by (repeat (first | (with_reducible exact List.mem_cons_self) | with_reducible apply List.mem_cons_of_mem)))) (fun w' H' => H'.slRd (by (repeat (first | (with_reducible exact List.mem_cons_self) | with_reducible apply List.mem_cons_of_mem)))) _ H).mono ?_
      clear H
      rintro e w6 ⟨rfl, H⟩
      rw [decide_eq_true rfl]
      go_wp2_with (first | go_skip)
      refine (lives03_H H).mono ?_
      clear H
      rintro e w7 ⟨rfl, H⟩
      go_wp2_with (first | go_skip)
      go_ret
      exact ⟨rfl, H.low⟩
  · have hz : d1 = 0 := by have := HDP.out.1; omega
    have g1 : decide (d1 > 0) = false := by simpa using k1
    have hLL : L2 = S.L := HL2.out (.inl hz)
    clear hz
    subst hLL
    go_wp2_with (first | go_skip | ((with_reducible show wpList _ _ _ (_ :: _) _ _); (with_reducible apply wpl_loadCH); (· exact cell_i64); (· rfl); (· rfl); (· exact H); (· (repeat (first | (with_reducible exact List.mem_cons_self) | with_reducible apply List.mem_cons_of_mem))); (· with_reducible exact line_g4 ..); (simp only [Act.put, List.setIfInBounds_toArray, List.set_cons_zero, List.set_cons_succ])))
    refine (llines_H (p := p) (q := q) (S := S) HG.out (H.top2 (.there (.there .here)) (.there (.there .here)))).mono ?_
    clear H
    rintro e w4 ⟨u1, c1, rfl, hc1, hm1, H⟩
    go_wp2_with (first | go_skip)
    refine (llines_H (p := p') (q := q') (S := S) HG.out (H.top2 (.there (.there (.there (.there (.there .here))))) (.there (.there (.there (.there (.there .here))))))).mono ?_
    clear H
    rintro e w5 ⟨u2, c2, rfl, hc2, hm2, H⟩
    go_wp2_with (first | go_skip)
    refine (sameLines_P (W := w) (some ⟨u1, 0, none⟩) (some ⟨u2, 0, none⟩) S.L.length S.L.length c1 c2 rfl rfl (by have := HG.out.few; omega) (by have := HG.out.few; omega) (fun w' H' => H'.slRd (by (repeat (first | (with_reducible exact List.mem_cons_self) | with_reducible apply List.mem_cons_of_mem)))) (fun w' H' => H'.slRd (by (repeat (first | (with_reducible exact List.mem_cons_self) | with_reducible apply List.mem_cons_of_mem)))) _ H).mono ?_
    clear H
    rintro e w6 ⟨rfl, H⟩
    rw [decide_eq_true rfl]
    go_wp2_with (first | go_skip)
    refine (lives03_H H).mono ?_
    clear H
    rintro e w7 ⟨rfl, H⟩
    go_wp2_with (first | go_skip)
    go_ret
    exact ⟨rfl, H.low⟩
end Go.Proofs.Ytacglcpjbepfnaa
