/- The walk of LedgersPush. -/
import Derived.Test.YtacglcpjbepfnaaMade
import Derived.Test.YtacglcpjbepfnaaSameL
import Derived.Test.YtacglcpjbepfnaaQRd
namespace Go.Proofs.Ytacglcpjbepfnaa
open Go.RowKit
set_option linter.unusedSimpArgs false
set_option linter.unusedVariables false
theorem linL_cell (L : List Lin) (k : Nat) (h : k < L.length) : (linL L)[k * 5 + 3]? = some (.int .i64 L[k].lim) ∧ (linL L)[k * 5 + 4]? = some (.int .i64 L[k].deb) := by
  have h1 := linL_at L k h
  have key : ∀ j, j < 5 → (linL L)[k * 5 + j]? = (linV L[k])[j]? := fun j hj => by
    rw [← h1, List.getElem?_take, if_pos hj, List.getElem?_drop]
  exact ⟨by rw [key 3 (by omega)]; rfl, by rw [key 4 (by omega)]; rfl⟩
structure SumP (W : World) (l : List Thing) (L' : List Lin) (c : Int) (v i : Value) (wr : World) : Prop where
  out : ∃ k : Nat, k ≤ 20 ∧ i = .int .u8 (k : Int) ∧ v = .int .i64 (sumPos L' c k) ∧ Heap W l wr
/-- A loop over the lines: nothing changes. -/
structure LedL (W : World) (l : List Thing) (n : Nat) (vi : Value) (wr : World) : Prop where
  out : ∃ k : Nat, k ≤ n ∧ vi = .int .i64 (k : Int) ∧ Heap W l wr
theorem sumPos_bound {L : List Lin} {c : Int} (h : ∀ p, -70368744177664 ≤ posL L p c ∧ posL L p c ≤ 70368744177664) : ∀ k : Nat, -(70368744177664 * (k : Int)) ≤ sumPos L c k ∧ sumPos L c k ≤ 70368744177664 * (k : Int)
  | 0 => by simp [sumPos]
  | k + 1 => by
    have := sumPos_bound h k
    have := h k
    rw [sumPos]
    omega
set_option maxRecDepth 100000
set_option maxHeartbeats 8000000
/-- Where nothing is pushed. -/
theorem ledgersPush_no (w : World) (ea : Option Addr) (an ac : Nat) (F : List LAct) (k a b c : Nat) (n : Int) (hl : F.length = an) (hn : an ≤ 120) (hF : ∀ x ∈ F, ActOk x) (R : Rd w ea (actL F)) (ho : ActOk ⟨k, a, b, c, n⟩) (hp : pushE (madeS F) a b c n ≠ 0) :
    Calls Try.prog 3 #[.slice ea an ac, .agg (act k a b c n)] w fun e w' => e = .returned (.bool true) ∧ Below w.heap.size w w' := by
  have H := Heap.start w
  obtain ⟨_, o1, o2, o3, o4⟩ := ho
  simp only at o1 o2 o3 o4
  have hcnt : ¬ (120 < (an : Int)) := by omega
  have HR := Lib.hid R
  have HL := Lib.hid hl
  have HF := Lib.hid hF
  have HO := Lib.hid o4
  have HP := Lib.hid hp
  clear R hl hF hp o4
  go_enter Try.func3, Try.ntmps3
  go_wp2_with (first | go_skip | ((with_reducible show wpList _ _ _ (_ :: _) _ _); (with_reducible apply wpl_boxRH); (· rfl); (· rfl); (· exact H); (clear H; intro px _ H); (simp only [Act.put, List.setIfInBounds_toArray, List.set_cons_zero, List.set_cons_succ])))
  refine (made_H ea an ac F HL.out hn HF.out (fun l' w' _ H' => HR.out.below H'.low) H).mono ?_
  clear H
  rintro e w1 ⟨p, q, rfl, H⟩
  have HG := Lib.hid (madeS_good F)
  generalize hS : madeS F = S at *
  clear hS
  go_wp2_with (go_skip)
  refine (lcopy_H (p := p) (q := q) (P := S.P) (S := S) H (by (repeat (first | (with_reducible exact List.mem_cons_self) | with_reducible apply List.mem_cons_of_mem))) (by (repeat (first | (with_reducible exact List.mem_cons_self) | with_reducible apply List.mem_cons_of_mem)))).mono ?_
  clear H
  rintro e w2 ⟨p', q', rfl, H⟩
  have r1 := lroom_H (W := w) (l := [LdC p' S.P (some q'), LdM q' S.L, LdC p S.P (some q), LdM q S.L, Cel px (act k a b c n) 26]) (p := p) (q := q) (S := S) a b c o1 o2 o3 HG.out (by (repeat (first | (with_reducible exact List.mem_cons_self) | with_reducible apply List.mem_cons_of_mem))) (by (repeat (first | (with_reducible exact List.mem_cons_self) | with_reducible apply List.mem_cons_of_mem)))
  have r2 := lroom_H (W := w) (l := [LdC p' S.P (some q'), LdM q' S.L, LdC p S.P (some q), LdM q S.L, Cel px (act k a b c n) 26]) (p := p) (q := q) (S := S) b a c o2 o1 o3 HG.out (by (repeat (first | (with_reducible exact List.mem_cons_self) | with_reducible apply List.mem_cons_of_mem))) (by (repeat (first | (with_reducible exact List.mem_cons_self) | with_reducible apply List.mem_cons_of_mem)))
  generalize hr : roomOf S a b c = room at *
  generalize roomOf S b a c = back at *
  have HRM := Lib.hid hr
  clear hr
  go_wp2_with (first | go_skip | ((with_reducible refine AnsH.call (by assumption) H ?_); clear H; intro _ H) | ((with_reducible show wpList _ _ _ (_ :: _) _ _); (with_reducible apply wpl_loadCH); (· first | exact cell_party | exact cell_cur | exact cell_i64); (· rfl); (· rfl); (· exact H); (· (repeat (first | (with_reducible exact List.mem_cons_self) | with_reducible apply List.mem_cons_of_mem))); (· (with_reducible first | exact act_g0 .. | exact act_g1 .. | exact act_g2 .. | exact act_g3 .. | exact act_g4 .. | exact act_g5 .. | exact act_g6 .. | exact act_g7 .. | exact act_g8 .. | exact act_g9 .. | exact act_g10 .. | exact act_g11 .. | exact act_g12 .. | exact act_g13 .. | exact act_g14 .. | exact act_g15 .. | exact act_g16 .. | exact act_g17 .. | exact act_g18 .. | exact act_g19 ..)); (simp only [Act.put, List.setIfInBounds_toArray, List.set_cons_zero, List.set_cons_succ])))
  clear r1 r2
  refine (lpush_H (p := p) (q := q) (S := S) a b c n o1 o2 o3 HO.out HG.out (H.top2 (.there (.there .here)) (.there (.there .here)))).mono ?_
  clear H
  rintro e w3 ⟨rfl, H⟩
  rw [show pushS S a b c n = S from by unfold pushS; rw [if_neg HP.out]] at H
  have hes : pushE S a b c n = 1 ∧ n < 1 ∨ pushE S a b c n = 11 ∧ ¬ n < 1 ∧ room < n := by
    have h1 := HP.out
    have h2 := HRM.out
    unfold pushE at *
    split at h1
    · exact .inl ⟨by rw [if_pos (by assumption)], by assumption⟩
    · split at h1
      · exact .inr ⟨by rw [if_neg (by assumption), if_pos (by assumption)], by assumption, by omega⟩
      · exact absurd rfl h1
  rcases hes with ⟨e1, e2⟩ | ⟨e1, e2, e3⟩
  all_goals
    rw [e1]
    clear e1
    go_wp2_with (first | go_skip | ((with_reducible show wpList _ _ _ (_ :: _) _ _); (with_reducible apply wpl_loadCH); (· first | exact cell_party | exact cell_cur | exact cell_i64); (· rfl); (· rfl); (· exact H); (· (repeat (first | (with_reducible exact List.mem_cons_self) | with_reducible apply List.mem_cons_of_mem))); (· (with_reducible first | exact act_g0 .. | exact act_g1 .. | exact act_g2 .. | exact act_g3 .. | exact act_g4 .. | exact act_g5 .. | exact act_g6 .. | exact act_g7 .. | exact act_g8 .. | exact act_g9 .. | exact act_g10 .. | exact act_g11 .. | exact act_g12 .. | exact act_g13 .. | exact act_g14 .. | exact act_g15 .. | exact act_g16 .. | exact act_g17 .. | exact act_g18 .. | exact act_g19 ..)); (simp only [Act.put, List.setIfInBounds_toArray, List.set_cons_zero, List.set_cons_succ])))
    refine (llines_H HG.out H).mono ?_
    clear H
    rintro e w4 ⟨g1, c1, rfl, hc1, hm1, H⟩
    go_wp2_with (first | go_skip)
    refine (llines_H (p := p') (q := q') HG.out (H.top2 (.there (.there (.there .here))) (.there (.there (.there .here))))).mono ?_
    clear H
    rintro e w5 ⟨g2, c2, rfl, hc2, hm2, H⟩
    go_wp2_with (first | go_skip)
    refine (sameLines_P (W := w) (some ⟨g1, 0, none⟩) (some ⟨g2, 0, none⟩) S.L.length S.L.length c1 c2 rfl rfl (by have := HG.out.few; omega) (by have := HG.out.few; omega) (fun w' H' => H'.slRd (by (repeat (first | (with_reducible exact List.mem_cons_self) | with_reducible apply List.mem_cons_of_mem)))) (fun w' H' => H'.slRd (by (repeat (first | (with_reducible exact List.mem_cons_self) | with_reducible apply List.mem_cons_of_mem)))) _ H).mono ?_
    clear H
    rintro e w6 ⟨rfl, H⟩
    rw [decide_eq_true rfl]
    go_wp2_with (first | go_skip)
    refine (lives03_H H).mono ?_
    clear H
    rintro e w7 ⟨rfl, H⟩
    go_wp2_with (first | go_skip)
    go_ret
    exact ⟨rfl, H.low⟩
/-- What a push makes, told without the ledger that it was. -/
structure Pushed (S : Lgr) (L' : List Lin) (a b c : Nat) (n : Int) : Prop where
  good : (⟨S.P, L'⟩ : Lgr).Good
  room : roomOf ⟨S.P, L'⟩ a b c = roomOf S a b c - n
  back : roomOf ⟨S.P, L'⟩ b a c = roomOf S b a c + n
  pos : ∀ p : Int, posL L' p c = posL S.L p c + ((if p = b then n else 0) - (if p = a then n else 0))
  ne : (a : Int) ≠ b
  fits : 1 ≤ n ∧ n ≤ roomOf S a b c
theorem pushed {S : Lgr} (G : S.Good) {a b c : Nat} {n : Int} (h : pushE S a b c n = 0) : ∃ L', pushS S a b c n = ⟨S.P, L'⟩ ∧ Pushed S L' a b c n := by
  have e : pushS S a b c n = ⟨S.P, (pushS S a b c n).L⟩ := by
    have := push_P S a b c n
    cases hh : pushS S a b c n
    rw [hh] at this
    simp only at this ⊢
    rw [this]
  obtain ⟨h1, h2, h3, _⟩ := G.push0 h
  have hr := push_room G h
  refine ⟨_, e, ?_, ?_, ?_, ?_, h3, h1, h2⟩
  · rw [← e]; exact G.push _ _ _ _
  · rw [← e]; exact hr.1
  · rw [← e]; exact hr.2
  · intro p
    rw [push_pos G h, if_pos rfl]
theorem ledgersPush_yes (w : World) (ea : Option Addr) (an ac : Nat) (F : List LAct) (k a b c : Nat) (n : Int) (hl : F.length = an) (hn : an ≤ 120) (hF : ∀ x ∈ F, ActOk x) (R : Rd w ea (actL F)) (ho : ActOk ⟨k, a, b, c, n⟩) (hp : pushE (madeS F) a b c n = 0) :
    Calls Try.prog 3 #[.slice ea an ac, .agg (act k a b c n)] w fun e w' => e = .returned (.bool true) ∧ Below w.heap.size w w' := by
  have H := Heap.start w
  obtain ⟨_, o1, o2, o3, o4⟩ := ho
  simp only at o1 o2 o3 o4
  have hcnt : ¬ (120 < (an : Int)) := by omega
  have HR := Lib.hid R
  have HL := Lib.hid hl
  have HF := Lib.hid hF
  have HO := Lib.hid o4
  have HP := Lib.hid hp
  clear R hl hF hp o4
  go_enter Try.func3, Try.ntmps3
  go_wp2_with (first | go_skip | ((with_reducible show wpList _ _ _ (_ :: _) _ _); (with_reducible apply wpl_boxRH); (· rfl); (· rfl); (· exact H); (clear H; intro px _ H); (simp only [Act.put, List.setIfInBounds_toArray, List.set_cons_zero, List.set_cons_succ])))
  refine (made_H ea an ac F HL.out hn HF.out (fun l' w' _ H' => HR.out.below H'.low) H).mono ?_
  clear H
  rintro e w1 ⟨p, q, rfl, H⟩
  have HG := Lib.hid (madeS_good F)
  generalize hS : madeS F = S at *
  clear hS
  go_wp2_with (go_skip)
  refine (lcopy_H (p := p) (q := q) (P := S.P) (S := S) H (by (repeat (first | (with_reducible exact List.mem_cons_self) | with_reducible apply List.mem_cons_of_mem))) (by (repeat (first | (with_reducible exact List.mem_cons_self) | with_reducible apply List.mem_cons_of_mem)))).mono ?_
  clear H
  rintro e w2 ⟨p', q', rfl, H⟩
  have r1 := lroom_H (W := w) (l := [LdC p' S.P (some q'), LdM q' S.L, LdC p S.P (some q), LdM q S.L, Cel px (act k a b c n) 26]) (p := p) (q := q) (S := S) a b c o1 o2 o3 HG.out (by (repeat (first | (with_reducible exact List.mem_cons_self) | with_reducible apply List.mem_cons_of_mem))) (by (repeat (first | (with_reducible exact List.mem_cons_self) | with_reducible apply List.mem_cons_of_mem)))
  have r2 := lroom_H (W := w) (l := [LdC p' S.P (some q'), LdM q' S.L, LdC p S.P (some q), LdM q S.L, Cel px (act k a b c n) 26]) (p := p) (q := q) (S := S) b a c o2 o1 o3 HG.out (by (repeat (first | (with_reducible exact List.mem_cons_self) | with_reducible apply List.mem_cons_of_mem))) (by (repeat (first | (with_reducible exact List.mem_cons_self) | with_reducible apply List.mem_cons_of_mem)))
  obtain ⟨L', hL', HPU⟩ := pushed HG.out HP.out
  have hrb := HG.out.room a b c
  have hbb := HG.out.room b a c
  have hroom2 := HPU.room
  have hback2 := HPU.back
  have hfits := HPU.fits
  generalize roomOf S a b c = room at *
  generalize roomOf S b a c = back at *
  have HPU := Lib.hid HPU
  have HL' := Lib.hid hL'
  have HR2 := Lib.hid (And.intro hroom2 hback2)
  clear hL' hroom2 hback2
  go_wp2_with (first | go_skip | ((with_reducible refine AnsH.call (by assumption) H ?_); clear H; intro _ H) | ((with_reducible show wpList _ _ _ (_ :: _) _ _); (with_reducible apply wpl_loadCH); (· first | exact cell_party | exact cell_cur | exact cell_i64); (· rfl); (· rfl); (· exact H); (· (repeat (first | (with_reducible exact List.mem_cons_self) | with_reducible apply List.mem_cons_of_mem))); (· (with_reducible first | exact act_g0 .. | exact act_g1 .. | exact act_g2 .. | exact act_g3 .. | exact act_g4 .. | exact act_g5 .. | exact act_g6 .. | exact act_g7 .. | exact act_g8 .. | exact act_g9 .. | exact act_g10 .. | exact act_g11 .. | exact act_g12 .. | exact act_g13 .. | exact act_g14 .. | exact act_g15 .. | exact act_g16 .. | exact act_g17 .. | exact act_g18 .. | exact act_g19 ..)); (simp only [Act.put, List.setIfInBounds_toArray, List.set_cons_zero, List.set_cons_succ])))
  clear r1 r2
  refine (lpush_H (p := p) (q := q) (S := S) a b c n o1 o2 o3 HO.out HG.out (H.top2 (.there (.there .here)) (.there (.there .here)))).mono ?_
  clear H
  rintro e w3 ⟨rfl, H⟩
  rw [HP.out]
  rw [HL'.out] at H
  simp only at H
  have r1 := lroom_H (W := w) (l := [LdC p S.P (some q), LdM q L', LdC p' S.P (some q'), LdM q' S.L, Cel px (act k a b c n) 26]) (p := p) (q := q) (S := ⟨S.P, L'⟩) a b c o1 o2 o3 HPU.out.good (by (repeat (first | (with_reducible exact List.mem_cons_self) | with_reducible apply List.mem_cons_of_mem))) (by (repeat (first | (with_reducible exact List.mem_cons_self) | with_reducible apply List.mem_cons_of_mem)))
  have r2 := lroom_H (W := w) (l := [LdC p S.P (some q), LdM q L', LdC p' S.P (some q'), LdM q' S.L, Cel px (act k a b c n) 26]) (p := p) (q := q) (S := ⟨S.P, L'⟩) b a c o2 o1 o3 HPU.out.good (by (repeat (first | (with_reducible exact List.mem_cons_self) | with_reducible apply List.mem_cons_of_mem))) (by (repeat (first | (with_reducible exact List.mem_cons_self) | with_reducible apply List.mem_cons_of_mem)))
  rw [HR2.out.1] at r1
  rw [HR2.out.2] at r2
  have t1 : decide (n < 1) = false := decide_eq_false (by omega)
  have t2 : decide (room < n) = false := decide_eq_false (by omega)
  have t3 : wrap64 (room - n) = room - n := IntWalk.wrap64_in _ ⟨by omega, by omega⟩
  have t4 : wrap64 (back + n) = back + n := IntWalk.wrap64_in _ ⟨by omega, by omega⟩
  have t5 : (room - n != room - n) = false := by simp
  have t6 : (back + n != back + n) = false := by simp
  go_wp2_with (go_skip)
  refine wp_region_H H (by kernel_rfl) (by kernel_rfl) ?_
  repeat (first | go_big_quiet_skip | ((with_reducible apply wpQ_loadCH); (· first | exact cell_party | exact cell_cur | exact cell_i64); (· rfl); (· rfl); (· (repeat (first | (with_reducible exact List.mem_cons_self) | with_reducible apply List.mem_cons_of_mem))); (· (with_reducible first | exact act_g0 .. | exact act_g1 .. | exact act_g2 .. | exact act_g3 .. | exact act_g4 .. | exact act_g5 .. | exact act_g6 .. | exact act_g7 .. | exact act_g8 .. | exact act_g9 .. | exact act_g10 .. | exact act_g11 .. | exact act_g12 .. | exact act_g13 .. | exact act_g14 .. | exact act_g15 .. | exact act_g16 .. | exact act_g17 .. | exact act_g18 .. | exact act_g19 ..)); (simp only [Act.put, List.setIfInBounds_toArray, List.set_cons_zero, List.set_cons_succ])) | go_big_quiet_step ((with_reducible first | exact AnsH.quiet (by assumption) | exact Ans.quietH (by assumption))))
  refine wpQuiet_nil ?_
  clear H
  intro _ H
  clear r1 r2
  go_wp2_with (go_skip)
  have H0 := H
  clear H
  go_loopw [10, 11] (fun v i wr => SumP w [LdC p S.P (some q), LdM q L', LdC p' S.P (some q'), LdM q' S.L, Cel px (act k a b c n) 26] L' c v i wr) (fun _ i _ => 20 - (intOf i).toNat)
  case atStart => exact ⟨0, by omega, rfl, rfl, H0⟩
  case round =>
    obtain ⟨j, hj, rfl, rfl, H⟩ := hrel.out
    clear H0 hrel
    by_cases hlt : j < 20
    · have q1 := lpos_H (W := w) (l := [LdC p S.P (some q), LdM q L', LdC p' S.P (some q'), LdM q' S.L, Cel px (act k a b c n) 26]) (p := p') (q := q') (S := S) j c HG.out (.there (.there .here)) (.there (.there .here))
      have q2 := lpos_H (W := w) (l := [LdC p S.P (some q), LdM q L', LdC p' S.P (some q'), LdM q' S.L, Cel px (act k a b c n) 26]) (p := p) (q := q) (S := ⟨S.P, L'⟩) j c HPU.out.good .here .here
      have hpos := HPU.out.pos (j : Int)
      have b1 := HG.out.posB (j : Int) (c : Int)
      have b2 := HPU.out.good.posB (j : Int) (c : Int)
      have b3 := sumPos_bound (L := L') (c := (c : Int)) (fun p => HPU.out.good.posB p (c : Int)) j
      have hne := HPU.out.ne
      have hsum : sumPos L' c (j + 1) = sumPos L' c j + posL L' (j : Int) c := rfl
      have HSUM := Lib.hid hsum
      have hu : IntKind.u8.wrap ((j : Int) + 1) = (j : Int) + 1 := IntWalk.u8_in _ (by omega)
      clear hsum
      simp only at q2 b2
      generalize sumPos L' c j = s0 at *
      generalize posL S.L (j : Int) c = x at *
      generalize posL L' (j : Int) c = y at *
      by_cases e1 : (j : Int) = a
      · have e2 : ¬ ((j : Int) = b) := fun h => hne (e1.symm.trans h)
        rw [if_neg e2, if_pos e1] at hpos
        obtain rfl : y = x - n := by omega
        have g1 : ((j : Int) == (a : Int)) = true := by simpa using e1
        have g2 : ((j : Int) == (b : Int)) = false := by simpa using e2
        have w1 : wrap64 (x - n) = x - n := IntWalk.wrap64_in _ ⟨by omega, by omega⟩
        have w2 : wrap64 (s0 + (x - n)) = s0 + (x - n) := IntWalk.wrap64_in _ ⟨by omega, by omega⟩
        have g3 : (x - n != x - n) = false := by simp
        clear hpos e1 e2 hne b1 b2 b3
        go_wp2_with (first | go_skip | ((with_reducible refine AnsH.call (by assumption) H ?_); clear H; intro _ H) | ((with_reducible show wpList _ _ _ (_ :: _) _ _); (with_reducible apply wpl_loadCH); (· first | exact cell_party | exact cell_cur | exact cell_i64); (· rfl); (· rfl); (· exact H); (· (repeat (first | (with_reducible exact List.mem_cons_self) | with_reducible apply List.mem_cons_of_mem))); (· (with_reducible first | exact act_g0 .. | exact act_g1 .. | exact act_g2 .. | exact act_g3 .. | exact act_g4 .. | exact act_g5 .. | exact act_g6 .. | exact act_g7 .. | exact act_g8 .. | exact act_g9 .. | exact act_g10 .. | exact act_g11 .. | exact act_g12 .. | exact act_g13 .. | exact act_g14 .. | exact act_g15 .. | exact act_g16 .. | exact act_g17 .. | exact act_g18 .. | exact act_g19 ..)); (simp only [Act.put, List.setIfInBounds_toArray, List.set_cons_zero, List.set_cons_succ])))
        refine ⟨⟨j + 1, by omega, by simp, by rw [HSUM.out, w2], H⟩, ?m1⟩
        case m1 => simp [intOf]; omega
      · by_cases e2 : (j : Int) = b
        · rw [if_pos e2, if_neg e1] at hpos
          obtain rfl : y = x + n := by omega
          have g1 : ((j : Int) == (a : Int)) = false := by simpa using e1
          have g2 : ((j : Int) == (b : Int)) = true := by simpa using e2
          have w1 : wrap64 (x + n) = x + n := IntWalk.wrap64_in _ ⟨by omega, by omega⟩
          have w2 : wrap64 (s0 + (x + n)) = s0 + (x + n) := IntWalk.wrap64_in _ ⟨by omega, by omega⟩
          have g3 : (x + n != x + n) = false := by simp
          clear hpos e1 e2 hne b1 b2 b3
          go_wp2_with (first | go_skip | ((with_reducible refine AnsH.call (by assumption) H ?_); clear H; intro _ H) | ((with_reducible show wpList _ _ _ (_ :: _) _ _); (with_reducible apply wpl_loadCH); (· first | exact cell_party | exact cell_cur | exact cell_i64); (· rfl); (· rfl); (· exact H); (· (repeat (first | (with_reducible exact List.mem_cons_self) | with_reducible apply List.mem_cons_of_mem))); (· (with_reducible first | exact act_g0 .. | exact act_g1 .. | exact act_g2 .. | exact act_g3 .. | exact act_g4 .. | exact act_g5 .. | exact act_g6 .. | exact act_g7 .. | exact act_g8 .. | exact act_g9 .. | exact act_g10 .. | exact act_g11 .. | exact act_g12 .. | exact act_g13 .. | exact act_g14 .. | exact act_g15 .. | exact act_g16 .. | exact act_g17 .. | exact act_g18 .. | exact act_g19 ..)); (simp only [Act.put, List.setIfInBounds_toArray, List.set_cons_zero, List.set_cons_succ])))
          refine ⟨⟨j + 1, by omega, by simp, by rw [HSUM.out, w2], H⟩, ?m2⟩
          case m2 => simp [intOf]; omega
        · rw [if_neg e2, if_neg e1] at hpos
          obtain rfl : y = x := by omega
          have g1 : ((j : Int) == (a : Int)) = false := by simpa using e1
          have g2 : ((j : Int) == (b : Int)) = false := by simpa using e2
          have w2 : wrap64 (s0 + y) = s0 + y := IntWalk.wrap64_in _ ⟨by omega, by omega⟩
          have g3 : (y != y) = false := by simp
          clear hpos e1 e2 hne b1 b2 b3
          go_wp2_with (first | go_skip | ((with_reducible refine AnsH.call (by assumption) H ?_); clear H; intro _ H) | ((with_reducible show wpList _ _ _ (_ :: _) _ _); (with_reducible apply wpl_loadCH); (· first | exact cell_party | exact cell_cur | exact cell_i64); (· rfl); (· rfl); (· exact H); (· (repeat (first | (with_reducible exact List.mem_cons_self) | with_reducible apply List.mem_cons_of_mem))); (· (with_reducible first | exact act_g0 .. | exact act_g1 .. | exact act_g2 .. | exact act_g3 .. | exact act_g4 .. | exact act_g5 .. | exact act_g6 .. | exact act_g7 .. | exact act_g8 .. | exact act_g9 .. | exact act_g10 .. | exact act_g11 .. | exact act_g12 .. | exact act_g13 .. | exact act_g14 .. | exact act_g15 .. | exact act_g16 .. | exact act_g17 .. | exact act_g18 .. | exact act_g19 ..)); (simp only [Act.put, List.setIfInBounds_toArray, List.set_cons_zero, List.set_cons_succ])))
          refine ⟨⟨j + 1, by omega, by simp, by rw [HSUM.out, w2], H⟩, ?m3⟩
          case m3 => simp [intOf]; omega
    · obtain rfl : j = 20 := by omega
      rw [show sumPos L' (c : Int) 20 = 0 from HPU.out.good.sum0 c]
      go_wp2_with (go_skip)
      refine (llines_H (p := p) (q := q) (S := ⟨S.P, L'⟩) HPU.out.good H).mono ?_
      clear H
      rintro e w5 ⟨g, cc, rfl, hcc, hmm, H⟩
      clear hcc hmm
      have H0 := H
      clear H
      have hdebs := Lib.hid (fun x (hx : x ∈ L') => (HPU.out.good.ok x hx).deb)
      have hfew : L'.length ≤ 64 := HPU.out.good.few
      simp only at H0
      go_wp2_with (go_skip)
      go_loopw [14] (fun i wr => LedL w (Sl g 39 5 L'.length cc (linL L') :: [LdC p S.P (some q), LdM q L', LdC p' S.P (some q'), LdM q' S.L, Cel px (act k a b c n) 26]) L'.length i wr) (fun i _ => L'.length - (intOf i).toNat)
      case atStart => exact ⟨0, Nat.zero_le _, rfl, H0⟩
      case round =>
        obtain ⟨i, hi, rfl, H⟩ := hrel.out
        clear H0 hrel
        by_cases hil : i < L'.length
        · obtain ⟨c3, c4⟩ := linL_cell L' i hil
          have hd := hdebs.out L'[i] (List.getElem_mem hil)
          generalize L'[i] = x at *
          obtain ⟨xr, xd, xu, xl, xe⟩ := x
          simp only at c3 c4 hd
          have g1 : decide (xe < 0) = false := decide_eq_false (by omega)
          have g2 : decide (xl < xe) = false := decide_eq_false (by omega)
          have C3 := Lib.hid c3
          have C4 := Lib.hid c4
          have HRD := Lib.hid (show ∀ w', Heap w (Sl g 39 5 L'.length cc (linL L') :: [LdC p S.P (some q), LdM q L', LdC p' S.P (some q'), LdM q' S.L, Cel px (act k a b c n) 26]) w' → Rd w' (some ⟨g, 0, none⟩) (linL L') from fun w' H' => H'.slRd List.mem_cons_self)
          clear c3 c4 hd
          go_wp2_with (go_skip)
          refine wp_region_H H (by kernel_rfl) (by kernel_rfl) ?_
          repeat (first | go_big_quiet_skip | (first | ((with_reducible apply wpQ_rdC); (· exact cell_i64); (· rfl); (· rfl); (· exact HRD.out); (· exact (Nat.zero_add _).symm); (· first | exact C4.out | exact C3.out); (simp only [Act.put, List.setIfInBounds_toArray, List.set_cons_zero, List.set_cons_succ]))) | go_big_quiet_step (fail))
          refine wpQuiet_nil ?_
          clear H
          intro _ H
          go_wp2_with (go_skip)
          refine ⟨⟨i + 1, by omega, by go_num, H⟩, ?m4⟩
          case m4 => simp [intOf]; omega
        · obtain rfl : i = L'.length := by omega
          go_wp2_with (go_skip)
          refine (lives03_H H).mono ?_
          clear H
          rintro e w7 ⟨rfl, H⟩
          go_wp2_with (go_skip)
          go_ret
          exact ⟨rfl, H.low⟩
theorem ledgersPush_great (w : World) (ea : Option Addr) (an ac : Nat) (k a b c : Nat) (n : Int) (hn : 120 < an) (hm : an ≤ maxLen) :
    Calls Try.prog 3 #[.slice ea an ac, .agg (act k a b c n)] w fun e w' => e = .returned (.bool true) ∧ Below w.heap.size w w' := by
  have H := Heap.start w
  have hcnt : 120 < (an : Int) := by omega
  unfold maxLen at hm
  go_enter Try.func3, Try.ntmps3
  go_wp2_with (first | go_skip | ((with_reducible show wpList _ _ _ (_ :: _) _ _); (with_reducible apply wpl_boxRH); (· rfl); (· rfl); (· exact H); (clear H; intro px _ H); (simp only [Act.put, List.setIfInBounds_toArray, List.set_cons_zero, List.set_cons_succ])))
  refine (lives03_H H).mono ?_
  clear H
  rintro e w7 ⟨rfl, H⟩
  go_wp2_with (go_skip)
  go_ret
  exact ⟨rfl, H.low⟩
theorem ledgersPush_law (v0 v1 : Value) (w : World) (o0 : ActsV w v0) (o1 : ActArg w v1) : Calls Try.prog 3 #[v0, v1] w fun e w' => e = .returned (.bool true) ∧ Below w.heap.size w w' := by
  obtain ⟨a, n, c, F, rfl, o0⟩ := o0
  obtain ⟨⟨k, xa, xb, xc, xn⟩, rfl, ho⟩ := o1
  by_cases hn : n ≤ 120
  · by_cases hp : pushE (madeS F) xa xb xc xn = 0
    · exact ledgersPush_yes w a n c F k xa xb xc xn o0.len hn o0.ok o0.rd ho hp
    · exact ledgersPush_no w a n c F k xa xb xc xn o0.len hn o0.ok o0.rd ho hp
  · exact ledgersPush_great w a n c k xa xb xc xn (by omega) (Nat.le_trans o0.cap o0.max)
end Go.Proofs.Ytacglcpjbepfnaa
