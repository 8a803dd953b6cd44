/- Part 13 of what several laws stand on: Made, Fw8, Fair8b, Open13. -/
import Derived.Test.YtgobnamhdkbbeaaNetGPart12
/- countinghouselaw03.Made: a ledger of whatever acts. -/
namespace Go.Proofs.Ytgobnamhdkbbeaa
open Go.RowKit
set_option linter.unusedSimpArgs false
set_option linter.unusedVariables false
theorem cell_u8 : CellTy 5 := ⟨⟨_, Try.underlying5, rfl⟩, by kernel_rfl⟩
/-- What an act makes of a ledger. -/
def actS (S : Lgr) (x : LAct) : Lgr :=
  if x.k % 8 = 0 then openS S x.a else if x.k % 8 = 1 ∨ x.k % 8 = 2 then trustS S x.a x.b x.c x.n else if x.k % 8 = 3 ∨ x.k % 8 = 4 ∨ x.k % 8 = 5 then pushS S x.a x.b x.c x.n else if x.k % 8 = 6 then forgS S x.a x.b x.c x.n else S
def madeS (F : List LAct) : Lgr := F.foldl actS Lgr.new
theorem actS_good {S : Lgr} (G : S.Good) (x : LAct) : (actS S x).Good := by
  unfold actS
  split
  · exact G.open _
  · split
    · exact G.trust _ _ _ _
    · split
      · exact G.push _ _ _ _
      · split
        · exact G.forg _ _ _ _
        · exact G
theorem foldl_good : ∀ (F : List LAct) (S : Lgr), S.Good → (F.foldl actS S).Good
  | [], _, G => G
  | x :: F, S, G => foldl_good F _ (actS_good G x)
theorem madeS_good (F : List LAct) : (madeS F).Good := foldl_good F _ Lgr.new_good
theorem madeS_snoc (F : List LAct) (x : LAct) : madeS (F ++ [x]) = actS (madeS F) x := by simp [madeS, List.foldl_append]
structure MadeR (W : World) (l : List Thing) (p q n : Nat) (F : List LAct) (vi : Value) (wr : World) : Prop where
  out : ∃ k : Nat, k ≤ n ∧ vi = .int .i64 (k : Int) ∧ Heap W (LdC p (madeS (F.take k)).P (some q) :: LdM q (madeS (F.take k)).L :: l) wr
section
variable {W w : World} {l : List Thing}
set_option maxRecDepth 100000
set_option maxHeartbeats 8000000
theorem made_H (ea : Option Addr) (n ec : Nat) (F : List LAct) (hl : F.length = n) (hn : n ≤ 120) (hF : ∀ x ∈ F, ActOk x) (R : ∀ l' w', (∀ x ∈ l, x ∈ l') → Heap W l' w' → Rd w' ea (actL F)) (H : Heap W l w) :
    Calls Try.prog 13 #[.slice ea n ec] w fun e w' => ∃ p q, e = .returned (.pointer (some ⟨p, 0, none⟩)) ∧ Heap W (LdC p (madeS F).P (some q) :: LdM q (madeS F).L :: l) w' := by
  have HL := Lib.hid hl
  have HF := Lib.hid hF
  have HR := Lib.hid R
  clear hl hF R
  go_enter Try.func13, Try.ntmps13
  go_wp2_with (go_skip)
  refine (lnew_H H).mono ?_
  clear H
  rintro e w1 ⟨p, q, rfl, H⟩
  go_wp2_with (go_skip)
  have H0 := H
  clear H
  go_loopw [4] (fun i wr => MadeR W l p q n F i wr) (fun i _ => n - (intOf i).toNat)
  case atStart => exact ⟨0, Nat.zero_le _, rfl, H0⟩
  case round =>
    obtain ⟨k, hk, rfl, H⟩ := hrel.out
    clear H0 hrel
    by_cases hlt : k < n
    · have hkF : k < F.length := by rw [HL.out]; exact hlt
      have hlen : k * 5 + 5 ≤ (actL F).length := by rw [actL_len]; omega
      have hrow := actL_row F k hkF
      have hok := HF.out F[k] (List.getElem_mem hkF)
      have hsn : madeS (F.take (k + 1)) = actS (madeS (F.take k)) F[k] := by rw [take_snoc F k hkF, madeS_snoc]
      have HG := Lib.hid (madeS_good (F.take k))
      have HSN := Lib.hid hsn
      clear hsn
      generalize F[k] = x at *
      generalize madeS (F.take k) = S at *
      obtain ⟨xk, xa, xb, xc, xn⟩ := x
      obtain ⟨o0, o1, o2, o3, o4⟩ := hok
      simp only at o0 o1 o2 o3 o4 hrow
      have HO := Lib.hid o4
      have hbr := HR.out (LdC p S.P (some q) :: LdM q S.L :: l)
      obtain ⟨ba, oa, rfl, _⟩ := (HR.out _ _ (fun t ht => List.mem_cons_of_mem _ (List.mem_cons_of_mem _ ht)) H).lt (by omega)
      have HRd := Lib.hid (show Rd wr (some ⟨ba, oa, none⟩) (actL F) from HR.out _ _ (fun t ht => List.mem_cons_of_mem _ (List.mem_cons_of_mem _ ht)) H)
      clear hbr
      have hr : xk % 8 = 0 ∨ xk % 8 = 1 ∨ xk % 8 = 2 ∨ xk % 8 = 3 ∨ xk % 8 = 4 ∨ xk % 8 = 5 ∨ xk % 8 = 6 ∨ xk % 8 = 7 := by omega
      rcases hr with hr | hr | hr | hr | hr | hr | hr | hr
      · have h8 : Int.tmod (xk : Int) 8 = 0 := by rw [Int.tmod_eq_emod_of_nonneg (by omega)]; omega
        have HE := Lib.hid (show madeS (F.take (k + 1)) = openS S xa by rw [HSN.out]; unfold actS; simp [hr])
        clear hr
        go_wp2_with (first
          | go_skip
          | ((with_reducible show wpList _ _ _ (_ :: _) _ _); (with_reducible apply wpl_loadRdR row_act); (· rfl); (· rfl); (· exact HRd.out); (· rfl); (· exact hlen); (· decide); (· exact hrow); (simp only [Act.put, List.setIfInBounds_toArray, List.set_cons_zero, List.set_cons_succ]))
          | ((with_reducible show wpList _ _ _ (_ :: _) _ _); (with_reducible apply wpl_allocRH row_act); (· rfl); (· exact H); (clear H; intro px _ H); (simp only [Act.put, List.setIfInBounds_toArray, List.set_cons_zero, List.set_cons_succ]))
          | ((with_reducible show wpList _ _ _ (_ :: _) _ _); (with_reducible apply wpl_storeRH row_act); (· rfl); (· rfl); (· rfl); (· with_reducible exact act_cells ..); (· exact H); (· (repeat (first | (with_reducible exact List.mem_cons_self) | with_reducible apply List.mem_cons_of_mem))); (· (simp only [act_sz, Nat.reduceAdd, Nat.reduceLeDiff, Nat.le_refl]; done)); (· with_reducible exact act_splice ..); (· (repeat (first | (with_reducible exact Repl.here) | with_reducible apply Repl.there))); (clear H; intro _ H); (simp only [Act.put, List.setIfInBounds_toArray, List.set_cons_zero, List.set_cons_succ]))
          | ((with_reducible show wpList _ _ _ (_ :: _) _ _); (with_reducible apply wpl_loadCH); (· first | exact cell_u8 | exact cell_party | exact cell_cur | exact cell_i64); (· rfl); (· rfl); (· exact H); (· (repeat (first | (with_reducible exact List.mem_cons_self) | with_reducible apply List.mem_cons_of_mem))); (· with_reducible first | exact act_g0 .. | exact act_g1 .. | exact act_g2 .. | exact act_g3 .. | exact act_g4 ..); (simp only [Act.put, List.setIfInBounds_toArray, List.set_cons_zero, List.set_cons_succ])))
        refine (lopen_H (p := p) (q := q) (S := S) xa o1 (H.pull (.there .here))).mono ?_
        clear H
        rintro e w2 ⟨rfl, H⟩
        go_wp2_with (go_skip)
        refine ⟨⟨k + 1, by omega, by go_num, ?_⟩, ?measure0⟩
        · rw [HE.out, open_L]
          exact H.drop (.there .here)
        case measure0 => simp [intOf]; omega
      · have h8 : Int.tmod (xk : Int) 8 = 1 := by rw [Int.tmod_eq_emod_of_nonneg (by omega)]; omega
        have HE := Lib.hid (show madeS (F.take (k + 1)) = trustS S xa xb xc xn by rw [HSN.out]; unfold actS; simp [hr])
        clear hr
        go_wp2_with (first
          | go_skip
          | ((with_reducible show wpList _ _ _ (_ :: _) _ _); (with_reducible apply wpl_loadRdR row_act); (· rfl); (· rfl); (· exact HRd.out); (· rfl); (· exact hlen); (· decide); (· exact hrow); (simp only [Act.put, List.setIfInBounds_toArray, List.set_cons_zero, List.set_cons_succ]))
          | ((with_reducible show wpList _ _ _ (_ :: _) _ _); (with_reducible apply wpl_allocRH row_act); (· rfl); (· exact H); (clear H; intro px _ H); (simp only [Act.put, List.setIfInBounds_toArray, List.set_cons_zero, List.set_cons_succ]))
          | ((with_reducible show wpList _ _ _ (_ :: _) _ _); (with_reducible apply wpl_storeRH row_act); (· rfl); (· rfl); (· rfl); (· with_reducible exact act_cells ..); (· exact H); (· (repeat (first | (with_reducible exact List.mem_cons_self) | with_reducible apply List.mem_cons_of_mem))); (· (simp only [act_sz, Nat.reduceAdd, Nat.reduceLeDiff, Nat.le_refl]; done)); (· with_reducible exact act_splice ..); (· (repeat (first | (with_reducible exact Repl.here) | with_reducible apply Repl.there))); (clear H; intro _ H); (simp only [Act.put, List.setIfInBounds_toArray, List.set_cons_zero, List.set_cons_succ]))
          | ((with_reducible show wpList _ _ _ (_ :: _) _ _); (with_reducible apply wpl_loadCH); (· first | exact cell_u8 | exact cell_party | exact cell_cur | exact cell_i64); (· rfl); (· rfl); (· exact H); (· (repeat (first | (with_reducible exact List.mem_cons_self) | with_reducible apply List.mem_cons_of_mem))); (· with_reducible first | exact act_g0 .. | exact act_g1 .. | exact act_g2 .. | exact act_g3 .. | exact act_g4 ..); (simp only [Act.put, List.setIfInBounds_toArray, List.set_cons_zero, List.set_cons_succ])))
        refine (ltrust_H (p := p) (q := q) (S := S) xa xb xc xn o1 o2 o3 HG.out (H.top2 (.there .here) (.there .here))).mono ?_
        clear H
        rintro e w2 ⟨rfl, H⟩
        go_wp2_with (go_skip)
        refine ⟨⟨k + 1, by omega, by go_num, ?_⟩, ?measure1⟩
        · rw [HE.out, trust_P]
          exact H.drop (.there (.there .here))
        case measure1 => simp [intOf]; omega
      · have h8 : Int.tmod (xk : Int) 8 = 2 := by rw [Int.tmod_eq_emod_of_nonneg (by omega)]; omega
        have HE := Lib.hid (show madeS (F.take (k + 1)) = trustS S xa xb xc xn by rw [HSN.out]; unfold actS; simp [hr])
        clear hr
        go_wp2_with (first
          | go_skip
          | ((with_reducible show wpList _ _ _ (_ :: _) _ _); (with_reducible apply wpl_loadRdR row_act); (· rfl); (· rfl); (· exact HRd.out); (· rfl); (· exact hlen); (· decide); (· exact hrow); (simp only [Act.put, List.setIfInBounds_toArray, List.set_cons_zero, List.set_cons_succ]))
          | ((with_reducible show wpList _ _ _ (_ :: _) _ _); (with_reducible apply wpl_allocRH row_act); (· rfl); (· exact H); (clear H; intro px _ H); (simp only [Act.put, List.setIfInBounds_toArray, List.set_cons_zero, List.set_cons_succ]))
          | ((with_reducible show wpList _ _ _ (_ :: _) _ _); (with_reducible apply wpl_storeRH row_act); (· rfl); (· rfl); (· rfl); (· with_reducible exact act_cells ..); (· exact H); (· (repeat (first | (with_reducible exact List.mem_cons_self) | with_reducible apply List.mem_cons_of_mem))); (· (simp only [act_sz, Nat.reduceAdd, Nat.reduceLeDiff, Nat.le_refl]; done)); (· with_reducible exact act_splice ..); (· (repeat (first | (with_reducible exact Repl.here) | with_reducible apply Repl.there))); (clear H; intro _ H); (simp only [Act.put, List.setIfInBounds_toArray, List.set_cons_zero, List.set_cons_succ]))
          | ((with_reducible show wpList _ _ _ (_ :: _) _ _); (with_reducible apply wpl_loadCH); (· first | exact cell_u8 | exact cell_party | exact cell_cur | exact cell_i64); (· rfl); (· rfl); (· exact H); (· (repeat (first | (with_reducible exact List.mem_cons_self) | with_reducible apply List.mem_cons_of_mem))); (· with_reducible first | exact act_g0 .. | exact act_g1 .. | exact act_g2 .. | exact act_g3 .. | exact act_g4 ..); (simp only [Act.put, List.setIfInBounds_toArray, List.set_cons_zero, List.set_cons_succ])))
        refine (ltrust_H (p := p) (q := q) (S := S) xa xb xc xn o1 o2 o3 HG.out (H.top2 (.there .here) (.there .here))).mono ?_
        clear H
        rintro e w2 ⟨rfl, H⟩
        go_wp2_with (go_skip)
        refine ⟨⟨k + 1, by omega, by go_num, ?_⟩, ?measure2⟩
        · rw [HE.out, trust_P]
          exact H.drop (.there (.there .here))
        case measure2 => simp [intOf]; omega
      · have h8 : Int.tmod (xk : Int) 8 = 3 := by rw [Int.tmod_eq_emod_of_nonneg (by omega)]; omega
        have HE := Lib.hid (show madeS (F.take (k + 1)) = pushS S xa xb xc xn by rw [HSN.out]; unfold actS; simp [hr])
        clear hr
        go_wp2_with (first
          | go_skip
          | ((with_reducible show wpList _ _ _ (_ :: _) _ _); (with_reducible apply wpl_loadRdR row_act); (· rfl); (· rfl); (· exact HRd.out); (· rfl); (· exact hlen); (· decide); (· exact hrow); (simp only [Act.put, List.setIfInBounds_toArray, List.set_cons_zero, List.set_cons_succ]))
          | ((with_reducible show wpList _ _ _ (_ :: _) _ _); (with_reducible apply wpl_allocRH row_act); (· rfl); (· exact H); (clear H; intro px _ H); (simp only [Act.put, List.setIfInBounds_toArray, List.set_cons_zero, List.set_cons_succ]))
          | ((with_reducible show wpList _ _ _ (_ :: _) _ _); (with_reducible apply wpl_storeRH row_act); (· rfl); (· rfl); (· rfl); (· with_reducible exact act_cells ..); (· exact H); (· (repeat (first | (with_reducible exact List.mem_cons_self) | with_reducible apply List.mem_cons_of_mem))); (· (simp only [act_sz, Nat.reduceAdd, Nat.reduceLeDiff, Nat.le_refl]; done)); (· with_reducible exact act_splice ..); (· (repeat (first | (with_reducible exact Repl.here) | with_reducible apply Repl.there))); (clear H; intro _ H); (simp only [Act.put, List.setIfInBounds_toArray, List.set_cons_zero, List.set_cons_succ]))
          | ((with_reducible show wpList _ _ _ (_ :: _) _ _); (with_reducible apply wpl_loadCH); (· first | exact cell_u8 | exact cell_party | exact cell_cur | exact cell_i64); (· rfl); (· rfl); (· exact H); (· (repeat (first | (with_reducible exact List.mem_cons_self) | with_reducible apply List.mem_cons_of_mem))); (· with_reducible first | exact act_g0 .. | exact act_g1 .. | exact act_g2 .. | exact act_g3 .. | exact act_g4 ..); (simp only [Act.put, List.setIfInBounds_toArray, List.set_cons_zero, List.set_cons_succ])))
        refine (lpush_H (p := p) (q := q) (S := S) xa xb xc xn o1 o2 o3 HO.out HG.out (H.top2 (.there .here) (.there .here))).mono ?_
        clear H
        rintro e w2 ⟨rfl, H⟩
        go_wp2_with (go_skip)
        refine ⟨⟨k + 1, by omega, by go_num, ?_⟩, ?measure3⟩
        · rw [HE.out, push_P]
          exact H.drop (.there (.there .here))
        case measure3 => simp [intOf]; omega
      · have h8 : Int.tmod (xk : Int) 8 = 4 := by rw [Int.tmod_eq_emod_of_nonneg (by omega)]; omega
        have HE := Lib.hid (show madeS (F.take (k + 1)) = pushS S xa xb xc xn by rw [HSN.out]; unfold actS; simp [hr])
        clear hr
        go_wp2_with (first
          | go_skip
          | ((with_reducible show wpList _ _ _ (_ :: _) _ _); (with_reducible apply wpl_loadRdR row_act); (· rfl); (· rfl); (· exact HRd.out); (· rfl); (· exact hlen); (· decide); (· exact hrow); (simp only [Act.put, List.setIfInBounds_toArray, List.set_cons_zero, List.set_cons_succ]))
          | ((with_reducible show wpList _ _ _ (_ :: _) _ _); (with_reducible apply wpl_allocRH row_act); (· rfl); (· exact H); (clear H; intro px _ H); (simp only [Act.put, List.setIfInBounds_toArray, List.set_cons_zero, List.set_cons_succ]))
          | ((with_reducible show wpList _ _ _ (_ :: _) _ _); (with_reducible apply wpl_storeRH row_act); (· rfl); (· rfl); (· rfl); (· with_reducible exact act_cells ..); (· exact H); (· (repeat (first | (with_reducible exact List.mem_cons_self) | with_reducible apply List.mem_cons_of_mem))); (· (simp only [act_sz, Nat.reduceAdd, Nat.reduceLeDiff, Nat.le_refl]; done)); (· with_reducible exact act_splice ..); (· (repeat (first | (with_reducible exact Repl.here) | with_reducible apply Repl.there))); (clear H; intro _ H); (simp only [Act.put, List.setIfInBounds_toArray, List.set_cons_zero, List.set_cons_succ]))
          | ((with_reducible show wpList _ _ _ (_ :: _) _ _); (with_reducible apply wpl_loadCH); (· first | exact cell_u8 | exact cell_party | exact cell_cur | exact cell_i64); (· rfl); (· rfl); (· exact H); (· (repeat (first | (with_reducible exact List.mem_cons_self) | with_reducible apply List.mem_cons_of_mem))); (· with_reducible first | exact act_g0 .. | exact act_g1 .. | exact act_g2 .. | exact act_g3 .. | exact act_g4 ..); (simp only [Act.put, List.setIfInBounds_toArray, List.set_cons_zero, List.set_cons_succ])))
        refine (lpush_H (p := p) (q := q) (S := S) xa xb xc xn o1 o2 o3 HO.out HG.out (H.top2 (.there .here) (.there .here))).mono ?_
        clear H
        rintro e w2 ⟨rfl, H⟩
        go_wp2_with (go_skip)
        refine ⟨⟨k + 1, by omega, by go_num, ?_⟩, ?measure4⟩
        · rw [HE.out, push_P]
          exact H.drop (.there (.there .here))
        case measure4 => simp [intOf]; omega
      · have h8 : Int.tmod (xk : Int) 8 = 5 := by rw [Int.tmod_eq_emod_of_nonneg (by omega)]; omega
        have HE := Lib.hid (show madeS (F.take (k + 1)) = pushS S xa xb xc xn by rw [HSN.out]; unfold actS; simp [hr])
        clear hr
        go_wp2_with (first
          | go_skip
          | ((with_reducible show wpList _ _ _ (_ :: _) _ _); (with_reducible apply wpl_loadRdR row_act); (· rfl); (· rfl); (· exact HRd.out); (· rfl); (· exact hlen); (· decide); (· exact hrow); (simp only [Act.put, List.setIfInBounds_toArray, List.set_cons_zero, List.set_cons_succ]))
          | ((with_reducible show wpList _ _ _ (_ :: _) _ _); (with_reducible apply wpl_allocRH row_act); (· rfl); (· exact H); (clear H; intro px _ H); (simp only [Act.put, List.setIfInBounds_toArray, List.set_cons_zero, List.set_cons_succ]))
          | ((with_reducible show wpList _ _ _ (_ :: _) _ _); (with_reducible apply wpl_storeRH row_act); (· rfl); (· rfl); (· rfl); (· with_reducible exact act_cells ..); (· exact H); (· (repeat (first | (with_reducible exact List.mem_cons_self) | with_reducible apply List.mem_cons_of_mem))); (· (simp only [act_sz, Nat.reduceAdd, Nat.reduceLeDiff, Nat.le_refl]; done)); (· with_reducible exact act_splice ..); (· (repeat (first | (with_reducible exact Repl.here) | with_reducible apply Repl.there))); (clear H; intro _ H); (simp only [Act.put, List.setIfInBounds_toArray, List.set_cons_zero, List.set_cons_succ]))
          | ((with_reducible show wpList _ _ _ (_ :: _) _ _); (with_reducible apply wpl_loadCH); (· first | exact cell_u8 | exact cell_party | exact cell_cur | exact cell_i64); (· rfl); (· rfl); (· exact H); (· (repeat (first | (with_reducible exact List.mem_cons_self) | with_reducible apply List.mem_cons_of_mem))); (· with_reducible first | exact act_g0 .. | exact act_g1 .. | exact act_g2 .. | exact act_g3 .. | exact act_g4 ..); (simp only [Act.put, List.setIfInBounds_toArray, List.set_cons_zero, List.set_cons_succ])))
        refine (lpush_H (p := p) (q := q) (S := S) xa xb xc xn o1 o2 o3 HO.out HG.out (H.top2 (.there .here) (.there .here))).mono ?_
        clear H
        rintro e w2 ⟨rfl, H⟩
        go_wp2_with (go_skip)
        refine ⟨⟨k + 1, by omega, by go_num, ?_⟩, ?measure5⟩
        · rw [HE.out, push_P]
          exact H.drop (.there (.there .here))
        case measure5 => simp [intOf]; omega
      · have h8 : Int.tmod (xk : Int) 8 = 6 := by rw [Int.tmod_eq_emod_of_nonneg (by omega)]; omega
        have HE := Lib.hid (show madeS (F.take (k + 1)) = forgS S xa xb xc xn by rw [HSN.out]; unfold actS; simp [hr])
        clear hr
        go_wp2_with (first
          | go_skip
          | ((with_reducible show wpList _ _ _ (_ :: _) _ _); (with_reducible apply wpl_loadRdR row_act); (· rfl); (· rfl); (· exact HRd.out); (· rfl); (· exact hlen); (· decide); (· exact hrow); (simp only [Act.put, List.setIfInBounds_toArray, List.set_cons_zero, List.set_cons_succ]))
          | ((with_reducible show wpList _ _ _ (_ :: _) _ _); (with_reducible apply wpl_allocRH row_act); (· rfl); (· exact H); (clear H; intro px _ H); (simp only [Act.put, List.setIfInBounds_toArray, List.set_cons_zero, List.set_cons_succ]))
          | ((with_reducible show wpList _ _ _ (_ :: _) _ _); (with_reducible apply wpl_storeRH row_act); (· rfl); (· rfl); (· rfl); (· with_reducible exact act_cells ..); (· exact H); (· (repeat (first | (with_reducible exact List.mem_cons_self) | with_reducible apply List.mem_cons_of_mem))); (· (simp only [act_sz, Nat.reduceAdd, Nat.reduceLeDiff, Nat.le_refl]; done)); (· with_reducible exact act_splice ..); (· (repeat (first | (with_reducible exact Repl.here) | with_reducible apply Repl.there))); (clear H; intro _ H); (simp only [Act.put, List.setIfInBounds_toArray, List.set_cons_zero, List.set_cons_succ]))
          | ((with_reducible show wpList _ _ _ (_ :: _) _ _); (with_reducible apply wpl_loadCH); (· first | exact cell_u8 | exact cell_party | exact cell_cur | exact cell_i64); (· rfl); (· rfl); (· exact H); (· (repeat (first | (with_reducible exact List.mem_cons_self) | with_reducible apply List.mem_cons_of_mem))); (· with_reducible first | exact act_g0 .. | exact act_g1 .. | exact act_g2 .. | exact act_g3 .. | exact act_g4 ..); (simp only [Act.put, List.setIfInBounds_toArray, List.set_cons_zero, List.set_cons_succ])))
        refine (lforg_H (p := p) (q := q) (S := S) xa xb xc xn o1 o2 o3 HO.out HG.out (H.top2 (.there .here) (.there .here))).mono ?_
        clear H
        rintro e w2 ⟨rfl, H⟩
        go_wp2_with (go_skip)
        refine ⟨⟨k + 1, by omega, by go_num, ?_⟩, ?measure6⟩
        · rw [HE.out, forg_P]
          exact H.drop (.there (.there .here))
        case measure6 => simp [intOf]; omega
      · have h8 : Int.tmod (xk : Int) 8 = 7 := by rw [Int.tmod_eq_emod_of_nonneg (by omega)]; omega
        have HE := Lib.hid (show madeS (F.take (k + 1)) = S by rw [HSN.out]; unfold actS; simp [hr])
        clear hr
        go_wp2_with (first
          | go_skip
          | ((with_reducible show wpList _ _ _ (_ :: _) _ _); (with_reducible apply wpl_loadRdR row_act); (· rfl); (· rfl); (· exact HRd.out); (· rfl); (· exact hlen); (· decide); (· exact hrow); (simp only [Act.put, List.setIfInBounds_toArray, List.set_cons_zero, List.set_cons_succ]))
          | ((with_reducible show wpList _ _ _ (_ :: _) _ _); (with_reducible apply wpl_allocRH row_act); (· rfl); (· exact H); (clear H; intro px _ H); (simp only [Act.put, List.setIfInBounds_toArray, List.set_cons_zero, List.set_cons_succ]))
          | ((with_reducible show wpList _ _ _ (_ :: _) _ _); (with_reducible apply wpl_storeRH row_act); (· rfl); (· rfl); (· rfl); (· with_reducible exact act_cells ..); (· exact H); (· (repeat (first | (with_reducible exact List.mem_cons_self) | with_reducible apply List.mem_cons_of_mem))); (· (simp only [act_sz, Nat.reduceAdd, Nat.reduceLeDiff, Nat.le_refl]; done)); (· with_reducible exact act_splice ..); (· (repeat (first | (with_reducible exact Repl.here) | with_reducible apply Repl.there))); (clear H; intro _ H); (simp only [Act.put, List.setIfInBounds_toArray, List.set_cons_zero, List.set_cons_succ]))
          | ((with_reducible show wpList _ _ _ (_ :: _) _ _); (with_reducible apply wpl_loadCH); (· first | exact cell_u8 | exact cell_party | exact cell_cur | exact cell_i64); (· rfl); (· rfl); (· exact H); (· (repeat (first | (with_reducible exact List.mem_cons_self) | with_reducible apply List.mem_cons_of_mem))); (· with_reducible first | exact act_g0 .. | exact act_g1 .. | exact act_g2 .. | exact act_g3 .. | exact act_g4 ..); (simp only [Act.put, List.setIfInBounds_toArray, List.set_cons_zero, List.set_cons_succ])))
        refine ⟨⟨k + 1, by omega, by go_num, ?_⟩, ?measure7⟩
        · rw [HE.out]
          exact H.tail
        case measure7 => simp [intOf]; omega
    · obtain rfl : k = n := by omega
      rw [List.take_of_length_le (by rw [HL.out]; exact Nat.le_refl _)] at H
      go_wp2_with (go_skip)
      go_ret
      exact ⟨p, q, rfl, H⟩
end
end Go.Proofs.Ytgobnamhdkbbeaa

/- countinghouselaw08.Least: can nothing less be left? -/
namespace Go.Proofs.Ytgobnamhdkbbeaa
open Go.RowKit
set_option linter.unusedSimpArgs false
set_option linter.unusedVariables false
def up8 (c : Nat → Nat → Int) (a b : Nat) (v : Int) : Nat → Nat → Int := fun x y => if x = a ∧ y = b then v else c x y
def mt8 (c : Nat → Nat → Int) : Array Value := tab 289 fun i => .int .i64 (c (i / 17) (i % 17))
theorem idx8 {a b : Nat} (hb : b < 17) : (a * 17 + b) / 17 = a ∧ (a * 17 + b) % 17 = b := by omega
theorem mt8_sz (c : Nat → Nat → Int) : (mt8 c).size = 289 := tab_size _ _
theorem mt8_get (c : Nat → Nat → Int) {a b : Nat} (ha : a < 17) (hb : b < 17) : (mt8 c)[a * 17 + b]? = some (.int .i64 (c a b)) := by
  unfold mt8
  rw [tab_get _ (by omega), (idx8 hb).1, (idx8 hb).2]
theorem mt8_set (c : Nat → Nat → Int) {a b : Nat} (ha : a < 17) (hb : b < 17) (v : Int) : (mt8 c).setIfInBounds (a * 17 + b) (.int .i64 v) = mt8 (up8 c a b v) := by
  unfold mt8
  rw [tab_set _ _ (by omega)]
  apply tab_congr
  intro i hi
  unfold up8
  by_cases e : i = a * 17 + b
  · subst e
    rw [if_pos rfl, if_pos ⟨(idx8 hb).1, (idx8 hb).2⟩]
  · rw [if_neg e, if_neg (by omega)]
theorem row_mt8 : RowTy 142 289 (mt8 fun _ _ => 0) := ⟨⟨_, Try.underlying142, rfl⟩, by kernel_rfl, by kernel_rfl⟩
theorem cell_int9 : CellTy 3 := ⟨⟨_, Try.underlying3, rfl⟩, by kernel_rfl⟩
/-- Costs that no height forbids. -/
def Qm (D : Nat → Int) (c : Nat → Nat → Int) : Prop := ∀ x y, x < 17 → y < 17 → D y - D x ≤ c x y ∧ -1048576 ≤ c x y ∧ c x y ≤ 1048576
theorem Qm.set {D : Nat → Int} {c : Nat → Nat → Int} (h : Qm D c) (a b : Nat) (v : Int) (h1 : D b - D a ≤ v) (h2 : -1048576 ≤ v ∧ v ≤ 1048576) : Qm D (up8 c a b v) := by
  intro x y hx hy
  unfold up8
  by_cases e : x = a ∧ y = b
  · rw [if_pos e, e.1, e.2]; exact ⟨h1, h2⟩
  · rw [if_neg e]; exact h x y hx hy
structure FwA (W : World) (l : List Thing) (pc : Nat) (i : Value) (wr : World) : Prop where
  out : ∃ (k : Nat) (c : Nat → Nat → Int), k ≤ 17 ∧ i = .int .i64 (k : Int) ∧ (∀ x y, x < k → y < 17 → c x y = 1048576) ∧ Heap W (Cel pc (mt8 c) 142 :: l) wr
structure FwB (W : World) (l : List Thing) (pc k : Nat) (i : Value) (wr : World) : Prop where
  out : ∃ (j : Nat) (c : Nat → Nat → Int), j ≤ 17 ∧ i = .int .i64 (j : Int) ∧ (∀ x y, x < k → y < 17 → c x y = 1048576) ∧ (∀ y, y < j → c k y = 1048576) ∧ Heap W (Cel pc (mt8 c) 142 :: l) wr
structure FwR (W : World) (l : List Thing) (D : Nat → Int) (pc s n : Nat) (i : Value) (wr : World) : Prop where
  out : ∃ (k : Nat) (c : Nat → Nat → Int), s ≤ k ∧ k ≤ n ∧ i = .int .i64 (k : Int) ∧ Qm D c ∧ Heap W (Cel pc (mt8 c) 142 :: l) wr
section
variable {W w : World} {l : List Thing}
set_option maxRecDepth 100000
set_option maxHeartbeats 16000000
attribute [local go_sem high] run_min2
theorem fw8_H (a b : Option Addr) (n m c d : Nat) (F : List Flw) (N : List Int) (hM : MayD F) (I : InvN F N) (hl : (leftL F N).length = n) (hf : F.length = m) (hm : m ≤ 1000) (hp : HasPot (edD F N))
    (RL : ∀ l' w', (∀ x ∈ l, x ∈ l') → Heap W l' w' → Rd w' a (flwL (leftL F N))) (RF : ∀ l' w', (∀ x ∈ l, x ∈ l') → Heap W l' w' → Rd w' b (flwL F)) :
    AnsH W l 47 #[.slice a n c, .slice b m d] (.bool true) := by
  intro w H
  obtain ⟨D, hD1, hD2⟩ := hp
  have hln : n ≤ m := by rw [← hl, ← hf]; exact leftL_len F N
  have HM := Lib.hid hM
  have HI := Lib.hid I
  have HN := Lib.hid (I.len.trans hf)
  have HL := Lib.hid hl
  have HF := Lib.hid hf
  have HRL := Lib.hid RL
  have HRF := Lib.hid RF
  have HD1 := Lib.hid hD1
  have HD2 := Lib.hid hD2
  clear hl hf RL RF hM I hD1 hD2
  go_enter Try.func47, Try.ntmps47
  go_wp2_with (first | go_skip | ((with_reducible show wpList _ _ _ (_ :: _) _ _); (with_reducible apply wpl_allocRH row_mt8); (· rfl); (· exact H); (clear H; intro pc _ H); (simp only [Act.put, List.setIfInBounds_toArray, List.set_cons_zero, List.set_cons_succ])))
  have H0 := H
  clear H
  go_loopw [6] (fun i wr => FwA W l pc i wr) (fun i _ => 17 - (intOf i).toNat)
  case atStart => exact ⟨0, _, Nat.zero_le _, rfl, fun x y hx => absurd hx (by omega), H0⟩
  case round =>
    obtain ⟨k, c0, hk, rfl, hc, H⟩ := hrel.out
    clear H0 hrel
    have HC := Lib.hid hc
    clear hc
    by_cases hlt : k < 17
    · go_wp2_with (go_skip)
      have H0 := H
      clear H
      go_loopw [7] (fun i wr => FwB W l pc k i wr) (fun i _ => 17 - (intOf i).toNat)
      case atStart => exact ⟨0, c0, Nat.zero_le _, rfl, HC.out, fun y hy => absurd hy (by omega), H0⟩
      case round =>
        obtain ⟨j, c1, hj, rfl, h1, h2, H⟩ := hrel.out
        clear H0 hrel HC
        have HX := Lib.hid (And.intro h1 h2)
        clear h1 h2
        by_cases hlt2 : j < 17
        · go_wp2_with (first | go_skip | ((with_reducible show wpList _ _ _ (_ :: _) _ _); (with_reducible apply wpl_storeIH); (· exact cell_int9); (· rfl); (· rfl); (· rfl); (· exact H); (· (repeat (first | (with_reducible exact List.mem_cons_self) | with_reducible apply List.mem_cons_of_mem))); (· (rw [mt8_sz]; omega)); (· with_reducible exact mt8_set _ hlt hlt2 _); (· (repeat (first | (with_reducible exact Repl.here) | with_reducible apply Repl.there))); (clear H; intro _ H); (simp only [Act.put, List.setIfInBounds_toArray, List.set_cons_zero, List.set_cons_succ])))
          refine ⟨⟨j + 1, _, by omega, by go_num, fun x y hx hy => ?_, fun y hy => ?_, H⟩, ?measure1⟩
          case measure1 => simp [intOf]; omega
          · unfold up8; rw [if_neg (by omega)]; exact HX.out.1 x y hx hy
          · unfold up8
            by_cases e : y = j
            · rw [if_pos ⟨rfl, e⟩]
            · rw [if_neg (by omega)]; exact HX.out.2 y (by omega)
        · have dk : decide ((j : Int) < 17) = false := decide_eq_false (by omega)
          go_wp2_with (go_skip)
          refine ⟨⟨k + 1, c1, by omega, by go_num, fun x y hx hy => ?_, H⟩, ?measure2⟩
          case measure2 => simp [intOf]; omega
          by_cases e : x = k
          · subst e; exact HX.out.2 y (by omega)
          · exact HX.out.1 x y (by omega) hy
    · have dk : decide ((k : Int) < 17) = false := decide_eq_false (by omega)
      have hQ : Qm D c0 := fun x y hx hy => by
        rw [HC.out x y (by omega) hy]
        have := HD1.out x
        have := HD1.out y
        omega
      clear HC
      go_wp2_with (go_skip)
      have H0 := H
      clear H
      go_loopw [8] (fun i wr => FwR W l D pc 0 m i wr) (fun i _ => m - (intOf i).toNat)
      case atStart => exact ⟨0, c0, Nat.le_refl _, Nat.zero_le _, rfl, hQ, H0⟩
      case round =>
        clear hQ
        obtain ⟨k, c1, _, hk, rfl, hQ, H⟩ := hrel.out
        clear H0 hrel
        have HQ := Lib.hid hQ
        clear hQ
        by_cases hlt : k < m
        · have hfk : F[k]? = some (F[k]'(by rw [HF.out]; exact hlt)) := List.getElem?_eq_getElem _
          have hnk : N[k]? = some (N[k]'(by rw [HN.out]; exact hlt)) := List.getElem?_eq_getElem _
          have hrow := flwL_at F k (by rw [HF.out]; exact hlt)
          have hlen : k * 3 + 3 ≤ (flwL F).length := by rw [flwL_len, HF.out]; omega
          generalize F[k]'(by rw [HF.out]; exact hlt) = x at *
          generalize N[k]'(by rw [HN.out]; exact hlt) = z at *
          have hrw : (((flwL F).drop (k * 3)).take 3).toArray = flow (x.f : Int) (x.t : Int) x.n := by rw [hrow]; rfl
          have Rw := HRF.out _ wr (fun x hx => List.mem_cons_of_mem _ hx) H
          obtain ⟨eb, eo, rfl, _⟩ := Rw.lt (by omega)
          have hok := HM.out.okX hfk
          have hbd := HI.out.bnd k x z hfk hnk
          have hof := ofF_left HM.out HI.out hfk hnk
          have he1 : 0 < z → D x.t ≤ D x.f + -1 := fun h => HD2.out _ (edD_mem.2 ⟨k, x, z, hfk, hnk, .inl ⟨h, rfl⟩⟩)
          have he2 : z < x.n → D x.f ≤ D x.t + 1 := fun h => HD2.out _ (edD_mem.2 ⟨k, x, z, hfk, hnk, .inr ⟨h, rfl⟩⟩)
          obtain ⟨f, t, y⟩ := x
          simp only at hok hbd hof he1 he2 hrw
          have HE := Lib.hid (And.intro he1 he2)
          have HOF := Lib.hid hof
          have hf17 : f < 17 := by omega
          have ht17 : t < 17 := by omega
          have hz0 := hbd.1
          have hz1 := hbd.2
          have d1 : decide ((f : Int) > 16) = false := decide_eq_false (by omega)
          have d2 : decide ((t : Int) > 16) = false := decide_eq_false (by omega)
          clear hrow hfk hnk hok hbd hof he1 he2
          have A := fun px => of8_H (W := W) (l := Cel px (flow (f : Int) (t : Int) y) 32 :: Cel pc (mt8 c1) 142 :: l) a n c (leftL F N) f t HL.out (by omega) (fun w' h => HRL.out _ w' (fun x hx => List.mem_cons_of_mem _ (List.mem_cons_of_mem _ hx)) h)
          rw [HOF.out] at A
          by_cases h0 : 0 < z
          · have d3 : decide (z > 0) = true := decide_eq_true (by omega)
            by_cases h1 : z < y
            · have d4 : decide (z < y) = true := decide_eq_true (by omega)
              go_wp2_with (first
                | go_skip
                | ((with_reducible show wpList _ _ _ (_ :: _) _ _); (with_reducible apply wpl_loadRdR row_flow); (· rfl); (· rfl); (· exact Rw); (· rfl); (· exact hlen); (· decide); (· exact hrw); (simp only [Act.put, List.setIfInBounds_toArray, List.set_cons_zero, List.set_cons_succ]))
                | ((with_reducible show wpList _ _ _ (_ :: _) _ _); (with_reducible apply wpl_allocRH row_flow); (· rfl); (· exact H); (clear H; intro px _ H); (simp only [Act.put, List.setIfInBounds_toArray, List.set_cons_zero, List.set_cons_succ]))
                | ((with_reducible show wpList _ _ _ (_ :: _) _ _); (with_reducible apply wpl_storeRH row_flow); (· rfl); (· rfl); (· rfl); (· with_reducible exact flow_cells ..); (· exact H); (· (repeat (first | (with_reducible exact List.mem_cons_self) | with_reducible apply List.mem_cons_of_mem))); (· (simp only [flow_sz, Nat.reduceAdd, Nat.reduceLeDiff, Nat.le_refl]; done)); (· with_reducible exact flow_splice ..); (· (repeat (first | (with_reducible exact Repl.here) | with_reducible apply Repl.there))); (clear H; intro _ H); (simp only [Act.put, List.setIfInBounds_toArray, List.set_cons_zero, List.set_cons_succ]))
                | ((with_reducible show wpList _ _ _ (_ :: _) _ _); (with_reducible apply wpl_loadCH); (· first | exact cell_party | exact cell_i64); (· rfl); (· rfl); (· exact H); (· (repeat (first | (with_reducible exact List.mem_cons_self) | with_reducible apply List.mem_cons_of_mem))); (· (with_reducible first | exact flow_g0 .. | exact flow_g1 .. | exact flow_g2 ..)); (simp only [Act.put, List.setIfInBounds_toArray, List.set_cons_zero, List.set_cons_succ])))
              refine (A _ _ H).mono ?_
              clear H
              rintro _ _ ⟨rfl, H⟩
              go_wp2_with (first | go_skip | ((with_reducible show wpList _ _ _ (_ :: _) _ _); (with_reducible apply wpl_loadCH); (· first | exact cell_party | exact cell_i64); (· rfl); (· rfl); (· exact H); (· (repeat (first | (with_reducible exact List.mem_cons_self) | with_reducible apply List.mem_cons_of_mem))); (· (with_reducible first | exact flow_g0 .. | exact flow_g1 .. | exact flow_g2 ..)); (simp only [Act.put, List.setIfInBounds_toArray, List.set_cons_zero, List.set_cons_succ])))
              refine wp_region_H_tail 6 H (by kernel_rfl) (by kernel_rfl) ?_
              simp only [List.take_succ_cons, List.take_zero, List.drop_succ_cons, List.drop_zero]
              repeat (first | go_big_quiet_skip | (first | ((with_reducible apply wpQ_loadCH); (· first | exact cell_party | exact cell_i64); (· rfl); (· rfl); (· (repeat (first | (with_reducible exact List.mem_cons_self) | with_reducible apply List.mem_cons_of_mem))); (· (with_reducible first | exact flow_g0 .. | exact flow_g1 .. | exact flow_g2 ..)); (simp only [Act.put, List.setIfInBounds_toArray, List.set_cons_zero, List.set_cons_succ])) | ((with_reducible apply wpQ_loadCH); (· exact cell_int9); (· rfl); (· rfl); (· (repeat (first | (with_reducible exact List.mem_cons_self) | with_reducible apply List.mem_cons_of_mem))); (· with_reducible exact mt8_get _ ht17 hf17); (simp only [Act.put, List.setIfInBounds_toArray, List.set_cons_zero, List.set_cons_succ]))) | go_big_quiet_step (fail))
              refine wpQuiet_nil ?_
              clear H
              intro _ H
              go_wp2_with (first | go_skip | ((with_reducible show wpList _ _ _ (_ :: _) _ _); (with_reducible apply wpl_storeIH); (· exact cell_int9); (· rfl); (· rfl); (· rfl); (· exact H); (· (repeat (first | (with_reducible exact List.mem_cons_self) | with_reducible apply List.mem_cons_of_mem))); (· (rw [mt8_sz]; omega)); (· with_reducible exact mt8_set _ hf17 ht17 _); (· (repeat (first | (with_reducible exact Repl.here) | with_reducible apply Repl.there))); (clear H; intro _ H); (simp only [Act.put, List.setIfInBounds_toArray, List.set_cons_zero, List.set_cons_succ])) | ((with_reducible show wpList _ _ _ (_ :: _) _ _); (with_reducible apply wpl_loadCH); (· first | exact cell_party | exact cell_i64); (· rfl); (· rfl); (· exact H); (· (repeat (first | (with_reducible exact List.mem_cons_self) | with_reducible apply List.mem_cons_of_mem))); (· (with_reducible first | exact flow_g0 .. | exact flow_g1 .. | exact flow_g2 ..)); (simp only [Act.put, List.setIfInBounds_toArray, List.set_cons_zero, List.set_cons_succ])))
              have HQ2 := Lib.hid (HQ.out.set f t (-1) (by have := HE.out.1 h0; omega) (by omega))
              have hb2 := HQ2.out t f ht17 hf17
              refine wp_region_H_tail 14 H (by kernel_rfl) (by kernel_rfl) ?_
              simp only [List.take_succ_cons, List.take_zero, List.drop_succ_cons, List.drop_zero]
              repeat (first | go_big_quiet_skip | (first | ((with_reducible apply wpQ_loadCH); (· first | exact cell_party | exact cell_i64); (· rfl); (· rfl); (· (repeat (first | (with_reducible exact List.mem_cons_self) | with_reducible apply List.mem_cons_of_mem))); (· (with_reducible first | exact flow_g0 .. | exact flow_g1 .. | exact flow_g2 ..)); (simp only [Act.put, List.setIfInBounds_toArray, List.set_cons_zero, List.set_cons_succ])) | ((with_reducible apply wpQ_loadCH); (· exact cell_int9); (· rfl); (· rfl); (· (repeat (first | (with_reducible exact List.mem_cons_self) | with_reducible apply List.mem_cons_of_mem))); (· with_reducible exact mt8_get _ ht17 hf17); (simp only [Act.put, List.setIfInBounds_toArray, List.set_cons_zero, List.set_cons_succ]))) | go_big_quiet_step (fail))
              refine wpQuiet_nil ?_
              clear H
              intro _ H
              go_wp2_with (first | go_skip | ((with_reducible show wpList _ _ _ (_ :: _) _ _); (with_reducible apply wpl_storeIH); (· exact cell_int9); (· rfl); (· rfl); (· rfl); (· exact H); (· (repeat (first | (with_reducible exact List.mem_cons_self) | with_reducible apply List.mem_cons_of_mem))); (· (rw [mt8_sz]; omega)); (· with_reducible exact mt8_set _ ht17 hf17 _); (· (repeat (first | (with_reducible exact Repl.here) | with_reducible apply Repl.there))); (clear H; intro _ H); (simp only [Act.put, List.setIfInBounds_toArray, List.set_cons_zero, List.set_cons_succ])))
              have HQ3 := Lib.hid (Qm.set (HQ2.out) t f (min ((up8 c1 f t (-1)) t f) 1) (by have := HE.out.2 h1; omega) (by omega))
              refine ⟨⟨k + 1, _, Nat.zero_le _, by omega, by go_num, HQ3.out, H.drop .here⟩, ?measureA1⟩
              case measureA1 => simp [intOf]; omega
            · have d4 : decide (z < y) = false := decide_eq_false (by omega)
              go_wp2_with (first
                | go_skip
                | ((with_reducible show wpList _ _ _ (_ :: _) _ _); (with_reducible apply wpl_loadRdR row_flow); (· rfl); (· rfl); (· exact Rw); (· rfl); (· exact hlen); (· decide); (· exact hrw); (simp only [Act.put, List.setIfInBounds_toArray, List.set_cons_zero, List.set_cons_succ]))
                | ((with_reducible show wpList _ _ _ (_ :: _) _ _); (with_reducible apply wpl_allocRH row_flow); (· rfl); (· exact H); (clear H; intro px _ H); (simp only [Act.put, List.setIfInBounds_toArray, List.set_cons_zero, List.set_cons_succ]))
                | ((with_reducible show wpList _ _ _ (_ :: _) _ _); (with_reducible apply wpl_storeRH row_flow); (· rfl); (· rfl); (· rfl); (· with_reducible exact flow_cells ..); (· exact H); (· (repeat (first | (with_reducible exact List.mem_cons_self) | with_reducible apply List.mem_cons_of_mem))); (· (simp only [flow_sz, Nat.reduceAdd, Nat.reduceLeDiff, Nat.le_refl]; done)); (· with_reducible exact flow_splice ..); (· (repeat (first | (with_reducible exact Repl.here) | with_reducible apply Repl.there))); (clear H; intro _ H); (simp only [Act.put, List.setIfInBounds_toArray, List.set_cons_zero, List.set_cons_succ]))
                | ((with_reducible show wpList _ _ _ (_ :: _) _ _); (with_reducible apply wpl_loadCH); (· first | exact cell_party | exact cell_i64); (· rfl); (· rfl); (· exact H); (· (repeat (first | (with_reducible exact List.mem_cons_self) | with_reducible apply List.mem_cons_of_mem))); (· (with_reducible first | exact flow_g0 .. | exact flow_g1 .. | exact flow_g2 ..)); (simp only [Act.put, List.setIfInBounds_toArray, List.set_cons_zero, List.set_cons_succ])))
              refine (A _ _ H).mono ?_
              clear H
              rintro _ _ ⟨rfl, H⟩
              go_wp2_with (first | go_skip | ((with_reducible show wpList _ _ _ (_ :: _) _ _); (with_reducible apply wpl_loadCH); (· first | exact cell_party | exact cell_i64); (· rfl); (· rfl); (· exact H); (· (repeat (first | (with_reducible exact List.mem_cons_self) | with_reducible apply List.mem_cons_of_mem))); (· (with_reducible first | exact flow_g0 .. | exact flow_g1 .. | exact flow_g2 ..)); (simp only [Act.put, List.setIfInBounds_toArray, List.set_cons_zero, List.set_cons_succ])))
              refine wp_region_H_tail 6 H (by kernel_rfl) (by kernel_rfl) ?_
              simp only [List.take_succ_cons, List.take_zero, List.drop_succ_cons, List.drop_zero]
              repeat (first | go_big_quiet_skip | (first | ((with_reducible apply wpQ_loadCH); (· first | exact cell_party | exact cell_i64); (· rfl); (· rfl); (· (repeat (first | (with_reducible exact List.mem_cons_self) | with_reducible apply List.mem_cons_of_mem))); (· (with_reducible first | exact flow_g0 .. | exact flow_g1 .. | exact flow_g2 ..)); (simp only [Act.put, List.setIfInBounds_toArray, List.set_cons_zero, List.set_cons_succ])) | ((with_reducible apply wpQ_loadCH); (· exact cell_int9); (· rfl); (· rfl); (· (repeat (first | (with_reducible exact List.mem_cons_self) | with_reducible apply List.mem_cons_of_mem))); (· with_reducible exact mt8_get _ ht17 hf17); (simp only [Act.put, List.setIfInBounds_toArray, List.set_cons_zero, List.set_cons_succ]))) | go_big_quiet_step (fail))
              refine wpQuiet_nil ?_
              clear H
              intro _ H
              go_wp2_with (first | go_skip | ((with_reducible show wpList _ _ _ (_ :: _) _ _); (with_reducible apply wpl_storeIH); (· exact cell_int9); (· rfl); (· rfl); (· rfl); (· exact H); (· (repeat (first | (with_reducible exact List.mem_cons_self) | with_reducible apply List.mem_cons_of_mem))); (· (rw [mt8_sz]; omega)); (· with_reducible exact mt8_set _ hf17 ht17 _); (· (repeat (first | (with_reducible exact Repl.here) | with_reducible apply Repl.there))); (clear H; intro _ H); (simp only [Act.put, List.setIfInBounds_toArray, List.set_cons_zero, List.set_cons_succ])) | ((with_reducible show wpList _ _ _ (_ :: _) _ _); (with_reducible apply wpl_loadCH); (· first | exact cell_party | exact cell_i64); (· rfl); (· rfl); (· exact H); (· (repeat (first | (with_reducible exact List.mem_cons_self) | with_reducible apply List.mem_cons_of_mem))); (· (with_reducible first | exact flow_g0 .. | exact flow_g1 .. | exact flow_g2 ..)); (simp only [Act.put, List.setIfInBounds_toArray, List.set_cons_zero, List.set_cons_succ])))
              have HQ2 := Lib.hid (HQ.out.set f t (-1) (by have := HE.out.1 h0; omega) (by omega))
              refine ⟨⟨k + 1, _, Nat.zero_le _, by omega, by go_num, HQ2.out, H.drop .here⟩, ?measureA2⟩
              case measureA2 => simp [intOf]; omega
          · have d3 : decide (z > 0) = false := decide_eq_false (by omega)
            by_cases h1 : z < y
            · have d4 : decide (z < y) = true := decide_eq_true (by omega)
              go_wp2_with (first
                | go_skip
                | ((with_reducible show wpList _ _ _ (_ :: _) _ _); (with_reducible apply wpl_loadRdR row_flow); (· rfl); (· rfl); (· exact Rw); (· rfl); (· exact hlen); (· decide); (· exact hrw); (simp only [Act.put, List.setIfInBounds_toArray, List.set_cons_zero, List.set_cons_succ]))
                | ((with_reducible show wpList _ _ _ (_ :: _) _ _); (with_reducible apply wpl_allocRH row_flow); (· rfl); (· exact H); (clear H; intro px _ H); (simp only [Act.put, List.setIfInBounds_toArray, List.set_cons_zero, List.set_cons_succ]))
                | ((with_reducible show wpList _ _ _ (_ :: _) _ _); (with_reducible apply wpl_storeRH row_flow); (· rfl); (· rfl); (· rfl); (· with_reducible exact flow_cells ..); (· exact H); (· (repeat (first | (with_reducible exact List.mem_cons_self) | with_reducible apply List.mem_cons_of_mem))); (· (simp only [flow_sz, Nat.reduceAdd, Nat.reduceLeDiff, Nat.le_refl]; done)); (· with_reducible exact flow_splice ..); (· (repeat (first | (with_reducible exact Repl.here) | with_reducible apply Repl.there))); (clear H; intro _ H); (simp only [Act.put, List.setIfInBounds_toArray, List.set_cons_zero, List.set_cons_succ]))
                | ((with_reducible show wpList _ _ _ (_ :: _) _ _); (with_reducible apply wpl_loadCH); (· first | exact cell_party | exact cell_i64); (· rfl); (· rfl); (· exact H); (· (repeat (first | (with_reducible exact List.mem_cons_self) | with_reducible apply List.mem_cons_of_mem))); (· (with_reducible first | exact flow_g0 .. | exact flow_g1 .. | exact flow_g2 ..)); (simp only [Act.put, List.setIfInBounds_toArray, List.set_cons_zero, List.set_cons_succ])))
              refine (A _ _ H).mono ?_
              clear H
              rintro _ _ ⟨rfl, H⟩
              go_wp2_with (first | go_skip | ((with_reducible show wpList _ _ _ (_ :: _) _ _); (with_reducible apply wpl_loadCH); (· first | exact cell_party | exact cell_i64); (· rfl); (· rfl); (· exact H); (· (repeat (first | (with_reducible exact List.mem_cons_self) | with_reducible apply List.mem_cons_of_mem))); (· (with_reducible first | exact flow_g0 .. | exact flow_g1 .. | exact flow_g2 ..)); (simp only [Act.put, List.setIfInBounds_toArray, List.set_cons_zero, List.set_cons_succ])))
              have hb2 := HQ.out t f ht17 hf17
              refine wp_region_H_tail 14 H (by kernel_rfl) (by kernel_rfl) ?_
              simp only [List.take_succ_cons, List.take_zero, List.drop_succ_cons, List.drop_zero]
              repeat (first | go_big_quiet_skip | (first | ((with_reducible apply wpQ_loadCH); (· first | exact cell_party | exact cell_i64); (· rfl); (· rfl); (· (repeat (first | (with_reducible exact List.mem_cons_self) | with_reducible apply List.mem_cons_of_mem))); (· (with_reducible first | exact flow_g0 .. | exact flow_g1 .. | exact flow_g2 ..)); (simp only [Act.put, List.setIfInBounds_toArray, List.set_cons_zero, List.set_cons_succ])) | ((with_reducible apply wpQ_loadCH); (· exact cell_int9); (· rfl); (· rfl); (· (repeat (first | (with_reducible exact List.mem_cons_self) | with_reducible apply List.mem_cons_of_mem))); (· with_reducible exact mt8_get _ ht17 hf17); (simp only [Act.put, List.setIfInBounds_toArray, List.set_cons_zero, List.set_cons_succ]))) | go_big_quiet_step (fail))
              refine wpQuiet_nil ?_
              clear H
              intro _ H
              go_wp2_with (first | go_skip | ((with_reducible show wpList _ _ _ (_ :: _) _ _); (with_reducible apply wpl_storeIH); (· exact cell_int9); (· rfl); (· rfl); (· rfl); (· exact H); (· (repeat (first | (with_reducible exact List.mem_cons_self) | with_reducible apply List.mem_cons_of_mem))); (· (rw [mt8_sz]; omega)); (· with_reducible exact mt8_set _ ht17 hf17 _); (· (repeat (first | (with_reducible exact Repl.here) | with_reducible apply Repl.there))); (clear H; intro _ H); (simp only [Act.put, List.setIfInBounds_toArray, List.set_cons_zero, List.set_cons_succ])))
              have HQ3 := Lib.hid (Qm.set (HQ.out) t f (min (c1 t f) 1) (by have := HE.out.2 h1; omega) (by omega))
              refine ⟨⟨k + 1, _, Nat.zero_le _, by omega, by go_num, HQ3.out, H.drop .here⟩, ?measureA3⟩
              case measureA3 => simp [intOf]; omega
            · have d4 : decide (z < y) = false := decide_eq_false (by omega)
              go_wp2_with (first
                | go_skip
                | ((with_reducible show wpList _ _ _ (_ :: _) _ _); (with_reducible apply wpl_loadRdR row_flow); (· rfl); (· rfl); (· exact Rw); (· rfl); (· exact hlen); (· decide); (· exact hrw); (simp only [Act.put, List.setIfInBounds_toArray, List.set_cons_zero, List.set_cons_succ]))
                | ((with_reducible show wpList _ _ _ (_ :: _) _ _); (with_reducible apply wpl_allocRH row_flow); (· rfl); (· exact H); (clear H; intro px _ H); (simp only [Act.put, List.setIfInBounds_toArray, List.set_cons_zero, List.set_cons_succ]))
                | ((with_reducible show wpList _ _ _ (_ :: _) _ _); (with_reducible apply wpl_storeRH row_flow); (· rfl); (· rfl); (· rfl); (· with_reducible exact flow_cells ..); (· exact H); (· (repeat (first | (with_reducible exact List.mem_cons_self) | with_reducible apply List.mem_cons_of_mem))); (· (simp only [flow_sz, Nat.reduceAdd, Nat.reduceLeDiff, Nat.le_refl]; done)); (· with_reducible exact flow_splice ..); (· (repeat (first | (with_reducible exact Repl.here) | with_reducible apply Repl.there))); (clear H; intro _ H); (simp only [Act.put, List.setIfInBounds_toArray, List.set_cons_zero, List.set_cons_succ]))
                | ((with_reducible show wpList _ _ _ (_ :: _) _ _); (with_reducible apply wpl_loadCH); (· first | exact cell_party | exact cell_i64); (· rfl); (· rfl); (· exact H); (· (repeat (first | (with_reducible exact List.mem_cons_self) | with_reducible apply List.mem_cons_of_mem))); (· (with_reducible first | exact flow_g0 .. | exact flow_g1 .. | exact flow_g2 ..)); (simp only [Act.put, List.setIfInBounds_toArray, List.set_cons_zero, List.set_cons_succ])))
              refine (A _ _ H).mono ?_
              clear H
              rintro _ _ ⟨rfl, H⟩
              go_wp2_with (first | go_skip | ((with_reducible show wpList _ _ _ (_ :: _) _ _); (with_reducible apply wpl_loadCH); (· first | exact cell_party | exact cell_i64); (· rfl); (· rfl); (· exact H); (· (repeat (first | (with_reducible exact List.mem_cons_self) | with_reducible apply List.mem_cons_of_mem))); (· (with_reducible first | exact flow_g0 .. | exact flow_g1 .. | exact flow_g2 ..)); (simp only [Act.put, List.setIfInBounds_toArray, List.set_cons_zero, List.set_cons_succ])))
              refine ⟨⟨k + 1, _, Nat.zero_le _, by omega, by go_num, HQ.out, H.drop .here⟩, ?measureA4⟩
              case measureA4 => simp [intOf]; omega
        · obtain rfl : m = k := by omega
          skip
          go_wp2_with (go_skip)
          have H0 := H
          clear H
          go_loopw [11] (fun i wr => FwR W l D pc 1 17 i wr) (fun i _ => 17 - (intOf i).toNat)
          case atStart => exact ⟨1, c1, by omega, by omega, rfl, HQ.out, H0⟩
          case round =>
            clear HQ
            obtain ⟨u, c2, hu1, hu, rfl, hQ, H⟩ := hrel.out
            clear H0 hrel
            have HQ := Lib.hid hQ
            clear hQ
            by_cases hm17 : u < 17
            · go_wp2_with (go_skip)
              have H0 := H
              clear H
              go_loopw [12] (fun i wr => FwR W l D pc 1 17 i wr) (fun i _ => 17 - (intOf i).toNat)
              case atStart => exact ⟨1, c2, by omega, by omega, rfl, HQ.out, H0⟩
              case round =>
                clear HQ
                obtain ⟨v, c3, hv1, hv, rfl, hQ, H⟩ := hrel.out
                clear H0 hrel
                have HQ := Lib.hid hQ
                clear hQ
                by_cases ha17 : v < 17
                · go_wp2_with (go_skip)
                  have H0 := H
                  clear H
                  go_loopw [13] (fun i wr => FwR W l D pc 1 17 i wr) (fun i _ => 17 - (intOf i).toNat)
                  case atStart => exact ⟨1, c3, by omega, by omega, rfl, HQ.out, H0⟩
                  case round =>
                    clear HQ
                    obtain ⟨s, c4, hs1, hs, rfl, hQ, H⟩ := hrel.out
                    clear H0 hrel
                    have HQ := Lib.hid hQ
                    clear hQ
                    by_cases hb17 : s < 17
                    · have q1 := HQ.out v u ha17 hm17
                      have q2 := HQ.out u s hm17 hb17
                      have q3 := HQ.out v s ha17 hb17
                      have HQQ := Lib.hid (And.intro q1.1 (And.intro q2.1 q3.1))
                      replace q1 := q1.2
                      replace q2 := q2.2
                      replace q3 := q3.2
                      by_cases h0 : c4 v u < 1048576
                      · have d0 : decide (c4 v u < 1048576) = true := decide_eq_true h0
                        by_cases h1 : c4 u s < 1048576
                        · have d1 : decide (c4 u s < 1048576) = true := decide_eq_true h1
                          go_wp2_with (first | go_skip | ((with_reducible show wpList _ _ _ (_ :: _) _ _); (with_reducible apply wpl_loadCH); (· exact cell_int9); (· rfl); (· rfl); (· exact H); (· (repeat (first | (with_reducible exact List.mem_cons_self) | with_reducible apply List.mem_cons_of_mem))); (· with_reducible first | exact mt8_get _ ha17 hm17 | exact mt8_get _ hm17 hb17); (simp only [Act.put, List.setIfInBounds_toArray, List.set_cons_zero, List.set_cons_succ])))
                          refine wp_region_H_tail 22 H (by kernel_rfl) (by kernel_rfl) ?_
                          simp only [List.take_succ_cons, List.take_zero, List.drop_succ_cons, List.drop_zero]
                          repeat (first | go_big_quiet_skip | ((with_reducible apply wpQ_loadCH); (· exact cell_int9); (· rfl); (· rfl); (· (repeat (first | (with_reducible exact List.mem_cons_self) | with_reducible apply List.mem_cons_of_mem))); (· with_reducible first | exact mt8_get _ ha17 hb17 | exact mt8_get _ ha17 hm17 | exact mt8_get _ hm17 hb17); (simp only [Act.put, List.setIfInBounds_toArray, List.set_cons_zero, List.set_cons_succ])) | go_big_quiet_step (fail))
                          refine wpQuiet_nil ?_
                          clear H
                          intro _ H
                          go_wp2_with (first | go_skip | ((with_reducible show wpList _ _ _ (_ :: _) _ _); (with_reducible apply wpl_storeIH); (· exact cell_int9); (· rfl); (· rfl); (· rfl); (· exact H); (· (repeat (first | (with_reducible exact List.mem_cons_self) | with_reducible apply List.mem_cons_of_mem))); (· (rw [mt8_sz]; omega)); (· with_reducible exact mt8_set _ ha17 hb17 _); (· (repeat (first | (with_reducible exact Repl.here) | with_reducible apply Repl.there))); (clear H; intro _ H); (simp only [Act.put, List.setIfInBounds_toArray, List.set_cons_zero, List.set_cons_succ])))
                          refine ⟨⟨s + 1, _, by omega, by omega, by go_num, HQ.out.set v s _ ?_ ?_, H⟩, ?measureB1⟩
                          case measureB1 => simp [intOf]; omega
                          · have := HQQ.out; first | (split <;> omega) | omega
                          · first | (split <;> omega) | omega
                        · have d1 : decide (c4 u s < 1048576) = false := decide_eq_false h1
                          go_wp2_with (first | go_skip | ((with_reducible show wpList _ _ _ (_ :: _) _ _); (with_reducible apply wpl_loadCH); (· exact cell_int9); (· rfl); (· rfl); (· exact H); (· (repeat (first | (with_reducible exact List.mem_cons_self) | with_reducible apply List.mem_cons_of_mem))); (· with_reducible first | exact mt8_get _ ha17 hm17 | exact mt8_get _ hm17 hb17); (simp only [Act.put, List.setIfInBounds_toArray, List.set_cons_zero, List.set_cons_succ])))
                          refine ⟨⟨s + 1, _, by omega, by omega, by go_num, HQ.out, H⟩, ?measureB2⟩
                          case measureB2 => simp [intOf]; omega
                      · have d0 : decide (c4 v u < 1048576) = false := decide_eq_false h0
                        go_wp2_with (first | go_skip | ((with_reducible show wpList _ _ _ (_ :: _) _ _); (with_reducible apply wpl_loadCH); (· exact cell_int9); (· rfl); (· rfl); (· exact H); (· (repeat (first | (with_reducible exact List.mem_cons_self) | with_reducible apply List.mem_cons_of_mem))); (· with_reducible first | exact mt8_get _ ha17 hm17 | exact mt8_get _ hm17 hb17); (simp only [Act.put, List.setIfInBounds_toArray, List.set_cons_zero, List.set_cons_succ])))
                        refine ⟨⟨s + 1, _, by omega, by omega, by go_num, HQ.out, H⟩, ?measureB3⟩
                        case measureB3 => simp [intOf]; omega
                    · have dk : decide ((s : Int) < 17) = false := decide_eq_false (by omega)
                      go_wp2_with (go_skip)
                      refine ⟨⟨v + 1, _, by omega, by omega, by go_num, HQ.out, H⟩, ?measureB4⟩
                      case measureB4 => simp [intOf]; omega
                · have dk : decide ((v : Int) < 17) = false := decide_eq_false (by omega)
                  go_wp2_with (go_skip)
                  refine ⟨⟨u + 1, _, by omega, by omega, by go_num, HQ.out, H⟩, ?measureB5⟩
                  case measureB5 => simp [intOf]; omega
            · have dk : decide ((u : Int) < 17) = false := decide_eq_false (by omega)
              go_wp2_with (go_skip)
              have H0 := H
              clear H
              go_loopw [14] (fun i wr => FwR W l D pc 1 17 i wr) (fun i _ => 17 - (intOf i).toNat)
              case atStart => exact ⟨1, c2, by omega, by omega, rfl, HQ.out, H0⟩
              case round =>
                clear HQ
                obtain ⟨s, c3, hs1, hs, rfl, hQ, H⟩ := hrel.out
                clear H0 hrel
                have HQ := Lib.hid hQ
                clear hQ
                by_cases hb17 : s < 17
                · have q1 := (HQ.out s s hb17 hb17).1
                  have d0 : decide (c3 s s < 0) = false := decide_eq_false (by omega)
                  go_wp2_with (first | go_skip | ((with_reducible show wpList _ _ _ (_ :: _) _ _); (with_reducible apply wpl_loadCH); (· exact cell_int9); (· rfl); (· rfl); (· exact H); (· (repeat (first | (with_reducible exact List.mem_cons_self) | with_reducible apply List.mem_cons_of_mem))); (· with_reducible exact mt8_get _ hb17 hb17); (simp only [Act.put, List.setIfInBounds_toArray, List.set_cons_zero, List.set_cons_succ])))
                  refine ⟨⟨s + 1, _, by omega, by omega, by go_num, HQ.out, H⟩, ?measureC1⟩
                  case measureC1 => simp [intOf]; omega
                · have dk : decide ((s : Int) < 17) = false := decide_eq_false (by omega)
                  go_wp2_with (go_skip)
                  go_ret
                  exact ⟨rfl, H.tail⟩
end
end Go.Proofs.Ytgobnamhdkbbeaa

/- countinghouselaw08.Fair: does each stand as in the other list, and is no debt more? -/
namespace Go.Proofs.Ytgobnamhdkbbeaa
open Go.RowKit
set_option linter.unusedSimpArgs false
set_option linter.unusedVariables false
theorem row_17f8 : RowTy 95 17 (row17 fun _ => 0) := ⟨⟨_, Try.underlying95, rfl⟩, by kernel_rfl, by kernel_rfl⟩
theorem row17_all8 (c : Nat → Int) : (row17 c).extract 0 (0 + 17) = row17 c := by rw [Nat.zero_add]; exact Array.extract_eq_self_of_le (by rw [row17_sz]; exact Nat.le_refl _)
theorem eq17_run (w : World) : (binOp .eql 95 (.agg (row17 fun _ => 0)) (.agg (row17 fun _ => 0))).run Try.prog w = .ok (.bool true) w := by kernel_rfl
theorem dl_app (L : List Flw) (x : Flw) (p : Nat) : dl (L ++ [x]) p = dl L p + sg x p * x.n := by unfold dl; rw [List.map_append, List.sum_append]; simp
theorem dl_take {L : List Flw} {k : Nat} {x : Flw} (h : L[k]? = some x) (p : Nat) : dl (L.take (k + 1)) p = dl (L.take k) p + sg x p * x.n := by
  rw [List.take_add_one, h, Option.toList_some]
  exact dl_app _ _ _
theorem upd_sg (S : Nat → Int) (f t : Nat) (y : Int) : updN (updN S f (S f - y)) t (updN S f (S f - y) t + y) = fun p => S p + sg ⟨f, t, y⟩ p * y := by
  funext p
  unfold updN sg
  by_cases h1 : p = t
  · subst h1
    by_cases h2 : p = f
    · subst h2; simp
    · have h3 : ¬ f = p := fun e => h2 e.symm
      simp [h2, h3]
  · have h3 : ¬ t = p := fun e => h1 e.symm
    by_cases h2 : p = f
    · subst h2; simp [h1, h3]; omega
    · have h4 : ¬ f = p := fun e => h2 e.symm
      simp [h1, h2, h3, h4]
theorem upd_sg' (S : Nat → Int) (f t : Nat) (y : Int) : updN (updN S f (S f + y)) t (updN S f (S f + y) t - y) = fun p => S p - sg ⟨f, t, y⟩ p * y := by
  funext p
  unfold updN sg
  by_cases h1 : p = t
  · subst h1
    by_cases h2 : p = f
    · subst h2; simp
    · have h3 : ¬ f = p := fun e => h2 e.symm
      simp [h2, h3]
  · have h3 : ¬ t = p := fun e => h1 e.symm
    by_cases h2 : p = f
    · subst h2; simp [h1, h3]
    · have h4 : ¬ f = p := fun e => h2 e.symm
      simp [h1, h2, h3, h4]
theorem dl_bnd : ∀ (L : List Flw), (∀ x ∈ L, 0 ≤ x.n ∧ x.n ≤ 1099511627776) → ∀ p, -(1099511627776 * (L.length : Int)) ≤ dl L p ∧ dl L p ≤ 1099511627776 * (L.length : Int)
  | [], _, p => by simp [dl]
  | x :: L, h, p => by
    have h1 := h x List.mem_cons_self
    have h2 := dl_bnd L (fun y hy => h y (List.mem_cons_of_mem _ hy)) p
    have h3 : -x.n ≤ sg x p * x.n ∧ sg x p * x.n ≤ x.n := by
      unfold sg
      split <;> split <;> simp <;> omega
    unfold dl at *
    rw [List.map_cons, List.sum_cons, List.length_cons]
    omega
section
variable {W w : World} {l : List Thing} {ops : Array Oper} {rest : List Oper} {a : Act} {Q : Exit → Act → World → Prop} {dst : Option Tmp} {ty : TypeId} {pos : String} {after : Array Edge} {guard : Option (Nat × Bool)} {p q : Operand}
theorem wpl_eq17 (hw : Region.wanted ⟨dst, .binOp .eql 95 p q 95, ty, pos, after, guard⟩ (yielded ops a.tmps) = true) (hp : a.eval p = .agg (row17 fun _ => 0)) (hq : a.eval q = .agg (row17 fun _ => 0))
    (h : wpList Try.prog ops Q rest (a.put dst (.bool true)) w) : wpList Try.prog ops Q (⟨dst, .binOp .eql 95 p q 95, ty, pos, after, guard⟩ :: rest) a w := by
  have hg : (Try.prog.eqGuardType Try.prog.depth 95) = false := by kernel_rfl
  refine wpl_pure hw _ (fun w => ?_) h
  unfold execOp
  simp only [hp, hq, Sem.run_bind, eq17_run]
  simp [eqGuard, hg, eq17_run]
end
structure FaA (W : World) (l : List Thing) (L : List Flw) (ps n : Nat) (i : Value) (wr : World) : Prop where
  out : ∃ (k : Nat) (S : Nat → Int), k ≤ n ∧ i = .int .i64 (k : Int) ∧ (∀ p, S p = dl (L.take k) p) ∧ Heap W (Cel ps (row17 S) 95 :: l) wr
structure FaB (W : World) (l : List Thing) (L F : List Flw) (ps n : Nat) (i : Value) (wr : World) : Prop where
  out : ∃ (k : Nat) (S : Nat → Int), k ≤ n ∧ i = .int .i64 (k : Int) ∧ (∀ p, S p = dl L p - dl (F.take k) p) ∧ Heap W (Cel ps (row17 S) 95 :: l) wr
section
variable {W w : World} {l : List Thing}
set_option maxRecDepth 100000
set_option maxHeartbeats 8000000
theorem fair8_H (a b : Option Addr) (n m c d : Nat) (L F : List Flw) (hl : L.length = n) (hf : F.length = m) (hn : n ≤ 1000) (hm : m ≤ 1000) (hL : ∀ y ∈ L, y.f ≤ 16 ∧ y.t ≤ 16 ∧ 1 ≤ y.n ∧ y.n ≤ 1099511627776 ∧ y.n ≤ ofF F y.f y.t) (hF : ∀ y ∈ F, y.f ≤ 16 ∧ y.t ≤ 16 ∧ 0 ≤ y.n ∧ y.n ≤ 1099511627776) (hD : ∀ p, dl L p = dl F p)
    (RL : ∀ l' w', (∀ x ∈ l, x ∈ l') → Heap W l' w' → Rd w' a (flwL L)) (RF : ∀ l' w', (∀ x ∈ l, x ∈ l') → Heap W l' w' → Rd w' b (flwL F)) :
    AnsH W l 46 #[.slice a n c, .slice b m d] (.bool true) := by
  intro w H
  have HL := Lib.hid hl
  have HF := Lib.hid hf
  have HLo := Lib.hid hL
  have HFo := Lib.hid hF
  have HD := Lib.hid hD
  have HRL := Lib.hid RL
  have HRF := Lib.hid RF
  clear hl hf hL hF hD RL RF
  go_enter Try.func46, Try.ntmps46
  go_wp2_with (first | go_skip | ((with_reducible show wpList _ _ _ (_ :: _) _ _); (with_reducible apply wpl_allocRH row_17f8); (· rfl); (· exact H); (clear H; intro ps _ H); (simp only [Act.put, List.setIfInBounds_toArray, List.set_cons_zero, List.set_cons_succ])))
  have H0 := H
  clear H
  go_loopw [6] (fun i wr => FaA W l L ps n i wr) (fun i _ => n - (intOf i).toNat)
  case atStart => exact ⟨0, _, Nat.zero_le _, rfl, fun p => rfl, H0⟩
  case round =>
    obtain ⟨k, S, hk, rfl, hS, H⟩ := hrel.out
    clear H0 hrel
    by_cases hlt : k < n
    · have hfk : L[k]? = some (L[k]'(by rw [HL.out]; exact hlt)) := List.getElem?_eq_getElem _
      have hrow := flwL_at L k (by rw [HL.out]; exact hlt)
      have hlen : k * 3 + 3 ≤ (flwL L).length := by rw [flwL_len, HL.out]; omega
      generalize L[k]'(by rw [HL.out]; exact hlt) = x at *
      have hrw : (((flwL L).drop (k * 3)).take 3).toArray = flow (x.f : Int) (x.t : Int) x.n := by rw [hrow]; rfl
      have Rw := HRL.out _ wr (fun x hx => List.mem_cons_of_mem _ hx) H
      obtain ⟨eb, eo, rfl, _⟩ := Rw.lt (by omega)
      have ho := HLo.out x (List.mem_of_getElem? hfk)
      have hdt := fun p => dl_take hfk p
      have hb := dl_bnd (L.take k) fun y hy => by have := HLo.out y (List.mem_of_mem_take hy); exact ⟨by omega, by omega⟩
      rw [List.length_take, HL.out] at hb
      have hSb : ∀ p, -1099511627776000 ≤ S p ∧ S p ≤ 1099511627776000 := fun p => by have := hb p; rw [hS p]; omega
      obtain ⟨f, t, y⟩ := x
      simp only at ho hrw
      obtain ⟨ho1, ho2, ho3, ho4, ho5⟩ := ho
      have HOF := Lib.hid ho5
      have HDT := Lib.hid hdt
      have HS := Lib.hid hS
      have HSB := Lib.hid hSb
      have hf17 : f < 17 := by omega
      have ht17 : t < 17 := by omega
      clear hrow hfk hdt hS hb hSb ho5
      go_wp2_with (first
        | go_skip
        | ((with_reducible show wpList _ _ _ (_ :: _) _ _); (with_reducible apply wpl_loadRdR row_flow); (· rfl); (· rfl); (· exact Rw); (· rfl); (· exact hlen); (· decide); (· exact hrw); (simp only [Act.put, List.setIfInBounds_toArray, List.set_cons_zero, List.set_cons_succ]))
        | ((with_reducible show wpList _ _ _ (_ :: _) _ _); (with_reducible apply wpl_allocRH row_flow); (· rfl); (· exact H); (clear H; intro px _ H); (simp only [Act.put, List.setIfInBounds_toArray, List.set_cons_zero, List.set_cons_succ]))
        | ((with_reducible show wpList _ _ _ (_ :: _) _ _); (with_reducible apply wpl_storeRH row_flow); (· rfl); (· rfl); (· rfl); (· with_reducible exact flow_cells ..); (· exact H); (· (repeat (first | (with_reducible exact List.mem_cons_self) | with_reducible apply List.mem_cons_of_mem))); (· (simp only [flow_sz, Nat.reduceAdd, Nat.reduceLeDiff, Nat.le_refl]; done)); (· with_reducible exact flow_splice ..); (· (repeat (first | (with_reducible exact Repl.here) | with_reducible apply Repl.there))); (clear H; intro _ H); (simp only [Act.put, List.setIfInBounds_toArray, List.set_cons_zero, List.set_cons_succ]))
        | ((with_reducible show wpList _ _ _ (_ :: _) _ _); (with_reducible apply wpl_loadCH); (· first | exact cell_party | exact cell_i64); (· rfl); (· rfl); (· exact H); (· (repeat (first | (with_reducible exact List.mem_cons_self) | with_reducible apply List.mem_cons_of_mem))); (· (with_reducible first | exact flow_g0 .. | exact flow_g1 .. | exact flow_g2 ..)); (simp only [Act.put, List.setIfInBounds_toArray, List.set_cons_zero, List.set_cons_succ])))
      have A := of8_H (W := W) (l := Cel px (flow (f : Int) (t : Int) y) 32 :: Cel ps (row17 S) 95 :: l) b m d F f t HF.out (by omega) (fun w' h => HRF.out _ w' (fun x hx => List.mem_cons_of_mem _ (List.mem_cons_of_mem _ hx)) h)
      obtain ⟨z, hz⟩ : ∃ z, ofF F f t = z := ⟨_, rfl⟩
      have hzy : y ≤ z := by rw [← hz]; exact HOF.out
      rw [hz] at A
      clear hz
      have d1 : decide ((f : Int) > 16) = false := decide_eq_false (by omega)
      have g1 : decide (16 < f) = false := decide_eq_false (by omega)
      have d2 : decide ((t : Int) > 16) = false := decide_eq_false (by omega)
      have g2 : decide (16 < t) = false := decide_eq_false (by omega)
      have d3 : decide (y < 1) = false := decide_eq_false (by omega)
      have d4 : decide (y > z) = false := decide_eq_false (by omega)
      have d5 : decide (z < y) = false := decide_eq_false (by omega)
      refine wp_region_H H (by kernel_rfl) (by kernel_rfl) ?_
      repeat (first | go_big_quiet_skip | ((with_reducible apply wpQ_loadCH); (· first | exact cell_party | exact cell_i64); (· rfl); (· rfl); (· (repeat (first | (with_reducible exact List.mem_cons_self) | with_reducible apply List.mem_cons_of_mem))); (· (with_reducible first | exact flow_g0 .. | exact flow_g1 .. | exact flow_g2 ..)); (simp only [Act.put, List.setIfInBounds_toArray, List.set_cons_zero, List.set_cons_succ])) | go_big_quiet_step ((with_reducible first | exact AnsH.quiet (by assumption) | exact Ans.quietH (by assumption))))
      refine wpQuiet_nil ?_
      clear H
      intro _ H
      go_wp2_with (go_skip)
      have hS1 := HSB.out f
      refine wp_region_H_tail 10 H (by kernel_rfl) (by kernel_rfl) ?_
      simp only [List.take_succ_cons, List.take_zero, List.drop_succ_cons, List.drop_zero]
      repeat (first | go_big_quiet_skip | (first | ((with_reducible apply wpQ_loadCH); (· first | exact cell_party | exact cell_i64); (· rfl); (· rfl); (· (repeat (first | (with_reducible exact List.mem_cons_self) | with_reducible apply List.mem_cons_of_mem))); (· (with_reducible first | exact flow_g0 .. | exact flow_g1 .. | exact flow_g2 ..)); (simp only [Act.put, List.setIfInBounds_toArray, List.set_cons_zero, List.set_cons_succ])) | ((with_reducible apply wpQ_loadCH); (· exact cell_i64); (· rfl); (· rfl); (· (repeat (first | (with_reducible exact List.mem_cons_self) | with_reducible apply List.mem_cons_of_mem))); (· exact row17_get _ hf17); (simp only [Act.put, List.setIfInBounds_toArray, List.set_cons_zero, List.set_cons_succ]))) | go_big_quiet_step (fail))
      refine wpQuiet_nil ?_
      clear H
      intro _ H
      go_wp2_with (first | go_skip | ((with_reducible show wpList _ _ _ (_ :: _) _ _); (with_reducible apply wpl_storeIH); (· exact cell_i64); (· rfl); (· rfl); (· rfl); (· exact H); (· (repeat (first | (with_reducible exact List.mem_cons_self) | with_reducible apply List.mem_cons_of_mem))); (· (rw [row17_sz]; exact hf17)); (· exact row17_set _ hf17 _); (· (repeat (first | (with_reducible exact Repl.here) | with_reducible apply Repl.there))); (clear H; intro _ H); (simp only [Act.put, List.setIfInBounds_toArray, List.set_cons_zero, List.set_cons_succ])))
      go_wp2_with (go_skip)
      have hS2 : -1099511627776000 - 1099511627776 ≤ updN S f (S f - y) t ∧ updN S f (S f - y) t ≤ 1099511627776000 := by
        unfold updN
        have := HSB.out t
        split <;> omega
      refine wp_region_H_tail 10 H (by kernel_rfl) (by kernel_rfl) ?_
      simp only [List.take_succ_cons, List.take_zero, List.drop_succ_cons, List.drop_zero]
      repeat (first | go_big_quiet_skip | (first | ((with_reducible apply wpQ_loadCH); (· first | exact cell_party | exact cell_i64); (· rfl); (· rfl); (· (repeat (first | (with_reducible exact List.mem_cons_self) | with_reducible apply List.mem_cons_of_mem))); (· (with_reducible first | exact flow_g0 .. | exact flow_g1 .. | exact flow_g2 ..)); (simp only [Act.put, List.setIfInBounds_toArray, List.set_cons_zero, List.set_cons_succ])) | ((with_reducible apply wpQ_loadCH); (· exact cell_i64); (· rfl); (· rfl); (· (repeat (first | (with_reducible exact List.mem_cons_self) | with_reducible apply List.mem_cons_of_mem))); (· exact row17_get _ ht17); (simp only [Act.put, List.setIfInBounds_toArray, List.set_cons_zero, List.set_cons_succ]))) | go_big_quiet_step (fail))
      refine wpQuiet_nil ?_
      clear H
      intro _ H
      go_wp2_with (first | go_skip | ((with_reducible show wpList _ _ _ (_ :: _) _ _); (with_reducible apply wpl_storeIH); (· exact cell_i64); (· rfl); (· rfl); (· rfl); (· exact H); (· (repeat (first | (with_reducible exact List.mem_cons_self) | with_reducible apply List.mem_cons_of_mem))); (· (rw [row17_sz]; exact ht17)); (· exact row17_set _ ht17 _); (· (repeat (first | (with_reducible exact Repl.here) | with_reducible apply Repl.there))); (clear H; intro _ H); (simp only [Act.put, List.setIfInBounds_toArray, List.set_cons_zero, List.set_cons_succ])))
      go_wp2_with (go_skip)
      rw [upd_sg] at H
      refine ⟨⟨k + 1, _, by omega, by go_num, fun p => ?_, H.drop .here⟩, ?measure1⟩
      case measure1 => simp [intOf]; omega
      rw [HDT.out p, HS.out p]
    · obtain rfl : n = k := by omega
      have hS2 : ∀ p, S p = dl L p - dl (F.take 0) p := fun p => by rw [hS p, List.take_of_length_le (by rw [HL.out]; exact Nat.le_refl _)]; simp [dl]
      clear hS hlt hk
      go_wp2_with (go_skip)
      have H0 := H
      clear H
      go_loopw [8] (fun i wr => FaB W l L F ps m i wr) (fun i _ => m - (intOf i).toNat)
      case atStart => exact ⟨0, S, Nat.zero_le _, rfl, hS2, H0⟩
      case round =>
        clear hS2
        obtain ⟨k, S, hk, rfl, hS, H⟩ := hrel.out
        clear H0 hrel
        by_cases hlt : k < m
        · have hfk : F[k]? = some (F[k]'(by rw [HF.out]; exact hlt)) := List.getElem?_eq_getElem _
          have hrow := flwL_at F k (by rw [HF.out]; exact hlt)
          have hlen : k * 3 + 3 ≤ (flwL F).length := by rw [flwL_len, HF.out]; omega
          generalize F[k]'(by rw [HF.out]; exact hlt) = x at *
          have hrw : (((flwL F).drop (k * 3)).take 3).toArray = flow (x.f : Int) (x.t : Int) x.n := by rw [hrow]; rfl
          have Rw := HRF.out _ wr (fun x hx => List.mem_cons_of_mem _ hx) H
          obtain ⟨eb, eo, rfl, _⟩ := Rw.lt (by omega)
          have ho := HFo.out x (List.mem_of_getElem? hfk)
          have hdt := fun p => dl_take hfk p
          have hb := dl_bnd (F.take k) fun y hy => by have := HFo.out y (List.mem_of_mem_take hy); exact ⟨by omega, by omega⟩
          have hb2 := dl_bnd L fun y hy => by have := HLo.out y hy; exact ⟨by omega, by omega⟩
          rw [List.length_take, HF.out] at hb
          rw [HL.out] at hb2
          have hSb : ∀ p, -2199023255552000 ≤ S p ∧ S p ≤ 2199023255552000 := fun p => by have := hb p; have := hb2 p; rw [hS p]; omega
          obtain ⟨f, t, y⟩ := x
          simp only at ho hrw
          obtain ⟨ho1, ho2, ho3, ho4⟩ := ho
          have HDT := Lib.hid hdt
          have HS := Lib.hid hS
          have HSB := Lib.hid hSb
          have hf17 : f < 17 := by omega
          have ht17 : t < 17 := by omega
          have d1 : decide ((f : Int) > 16) = false := decide_eq_false (by omega)
          have d2 : decide ((t : Int) > 16) = false := decide_eq_false (by omega)
          clear hrow hfk hdt hS hb hb2 hSb
          go_wp2_with (first
            | go_skip
            | ((with_reducible show wpList _ _ _ (_ :: _) _ _); (with_reducible apply wpl_loadRdR row_flow); (· rfl); (· rfl); (· exact Rw); (· rfl); (· exact hlen); (· decide); (· exact hrw); (simp only [Act.put, List.setIfInBounds_toArray, List.set_cons_zero, List.set_cons_succ]))
            | ((with_reducible show wpList _ _ _ (_ :: _) _ _); (with_reducible apply wpl_allocRH row_flow); (· rfl); (· exact H); (clear H; intro px _ H); (simp only [Act.put, List.setIfInBounds_toArray, List.set_cons_zero, List.set_cons_succ]))
            | ((with_reducible show wpList _ _ _ (_ :: _) _ _); (with_reducible apply wpl_storeRH row_flow); (· rfl); (· rfl); (· rfl); (· with_reducible exact flow_cells ..); (· exact H); (· (repeat (first | (with_reducible exact List.mem_cons_self) | with_reducible apply List.mem_cons_of_mem))); (· (simp only [flow_sz, Nat.reduceAdd, Nat.reduceLeDiff, Nat.le_refl]; done)); (· with_reducible exact flow_splice ..); (· (repeat (first | (with_reducible exact Repl.here) | with_reducible apply Repl.there))); (clear H; intro _ H); (simp only [Act.put, List.setIfInBounds_toArray, List.set_cons_zero, List.set_cons_succ]))
            | ((with_reducible show wpList _ _ _ (_ :: _) _ _); (with_reducible apply wpl_loadCH); (· first | exact cell_party | exact cell_i64); (· rfl); (· rfl); (· exact H); (· (repeat (first | (with_reducible exact List.mem_cons_self) | with_reducible apply List.mem_cons_of_mem))); (· (with_reducible first | exact flow_g0 .. | exact flow_g1 .. | exact flow_g2 ..)); (simp only [Act.put, List.setIfInBounds_toArray, List.set_cons_zero, List.set_cons_succ])))
          have hS1 := HSB.out f
          refine wp_region_H_tail 10 H (by kernel_rfl) (by kernel_rfl) ?_
          simp only [List.take_succ_cons, List.take_zero, List.drop_succ_cons, List.drop_zero]
          repeat (first | go_big_quiet_skip | (first | ((with_reducible apply wpQ_loadCH); (· first | exact cell_party | exact cell_i64); (· rfl); (· rfl); (· (repeat (first | (with_reducible exact List.mem_cons_self) | with_reducible apply List.mem_cons_of_mem))); (· (with_reducible first | exact flow_g0 .. | exact flow_g1 .. | exact flow_g2 ..)); (simp only [Act.put, List.setIfInBounds_toArray, List.set_cons_zero, List.set_cons_succ])) | ((with_reducible apply wpQ_loadCH); (· exact cell_i64); (· rfl); (· rfl); (· (repeat (first | (with_reducible exact List.mem_cons_self) | with_reducible apply List.mem_cons_of_mem))); (· exact row17_get _ hf17); (simp only [Act.put, List.setIfInBounds_toArray, List.set_cons_zero, List.set_cons_succ]))) | go_big_quiet_step (fail))
          refine wpQuiet_nil ?_
          clear H
          intro _ H
          go_wp2_with (first | go_skip | ((with_reducible show wpList _ _ _ (_ :: _) _ _); (with_reducible apply wpl_storeIH); (· exact cell_i64); (· rfl); (· rfl); (· rfl); (· exact H); (· (repeat (first | (with_reducible exact List.mem_cons_self) | with_reducible apply List.mem_cons_of_mem))); (· (rw [row17_sz]; exact hf17)); (· exact row17_set _ hf17 _); (· (repeat (first | (with_reducible exact Repl.here) | with_reducible apply Repl.there))); (clear H; intro _ H); (simp only [Act.put, List.setIfInBounds_toArray, List.set_cons_zero, List.set_cons_succ])))
          go_wp2_with (go_skip)
          have hS2 : -2199023255552000 ≤ updN S f (S f + y) t ∧ updN S f (S f + y) t ≤ 2199023255552000 + 1099511627776 := by
            unfold updN
            have := HSB.out t
            split <;> omega
          refine wp_region_H_tail 10 H (by kernel_rfl) (by kernel_rfl) ?_
          simp only [List.take_succ_cons, List.take_zero, List.drop_succ_cons, List.drop_zero]
          repeat (first | go_big_quiet_skip | (first | ((with_reducible apply wpQ_loadCH); (· first | exact cell_party | exact cell_i64); (· rfl); (· rfl); (· (repeat (first | (with_reducible exact List.mem_cons_self) | with_reducible apply List.mem_cons_of_mem))); (· (with_reducible first | exact flow_g0 .. | exact flow_g1 .. | exact flow_g2 ..)); (simp only [Act.put, List.setIfInBounds_toArray, List.set_cons_zero, List.set_cons_succ])) | ((with_reducible apply wpQ_loadCH); (· exact cell_i64); (· rfl); (· rfl); (· (repeat (first | (with_reducible exact List.mem_cons_self) | with_reducible apply List.mem_cons_of_mem))); (· exact row17_get _ ht17); (simp only [Act.put, List.setIfInBounds_toArray, List.set_cons_zero, List.set_cons_succ]))) | go_big_quiet_step (fail))
          refine wpQuiet_nil ?_
          clear H
          intro _ H
          go_wp2_with (first | go_skip | ((with_reducible show wpList _ _ _ (_ :: _) _ _); (with_reducible apply wpl_storeIH); (· exact cell_i64); (· rfl); (· rfl); (· rfl); (· exact H); (· (repeat (first | (with_reducible exact List.mem_cons_self) | with_reducible apply List.mem_cons_of_mem))); (· (rw [row17_sz]; exact ht17)); (· exact row17_set _ ht17 _); (· (repeat (first | (with_reducible exact Repl.here) | with_reducible apply Repl.there))); (clear H; intro _ H); (simp only [Act.put, List.setIfInBounds_toArray, List.set_cons_zero, List.set_cons_succ])))
          go_wp2_with (go_skip)
          rw [upd_sg'] at H
          refine ⟨⟨k + 1, _, by omega, by go_num, fun p => ?_, H.drop .here⟩, ?measure2⟩
          case measure2 => simp [intOf]; omega
          rw [HDT.out p, HS.out p]
          omega
        · obtain rfl : m = k := by omega
          have hS0 : S = fun _ => 0 := funext fun p => by rw [hS p, List.take_of_length_le (by rw [HF.out]; exact Nat.le_refl _), HD.out p]; omega
          subst hS0
          clear hS
          go_wp2_with (first | go_skip | ((with_reducible show wpList _ _ _ (_ :: _) _ _); (with_reducible apply wpl_loadRH row_17f8); (· rfl); (· rfl); (· exact H); (· (repeat (first | (with_reducible exact List.mem_cons_self) | with_reducible apply List.mem_cons_of_mem))); (· (simp only [row17_sz, Nat.reduceAdd, Nat.reduceLeDiff, Nat.le_refl]; done)); (· with_reducible exact row17_all8 _); (simp only [Act.put, List.setIfInBounds_toArray, List.set_cons_zero, List.set_cons_succ])) | ((with_reducible show wpList _ _ _ (_ :: _) _ _); (with_reducible apply wpl_eq17); (· rfl); (· rfl); (· rfl); (simp only [Act.put, List.setIfInBounds_toArray, List.set_cons_zero, List.set_cons_succ])))
          go_ret
          exact ⟨rfl, H.tail⟩
end
end Go.Proofs.Ytgobnamhdkbbeaa

/- An Ask for a netting in memory, and as an argument. -/
namespace Go.Proofs.Ytgobnamhdkbbeaa
open Go.ChangeShapes Go.WideShapes Go.ChangeAt Go.RowKit
set_option linter.unusedVariables false
set_option maxRecDepth 100000
structure Ask13 where
  c : Nat
  q : Int
abbrev ask13 (c : Int) (q : Int) : Array Value := #[.int .u8 c, .int .i64 q]
section
variable (c : Int) (q : Int)
theorem ask13_sz : (ask13 c q).size = 2 := rfl
theorem ask13_g0 : (ask13 c q)[0]? = some (.int .u8 c) := rfl
theorem ask13_s0 (v : Int) : (ask13 c q).setIfInBounds 0 (.int .u8 v) = ask13 v q := rfl
theorem ask13_g1 : (ask13 c q)[1]? = some (.int .i64 q) := rfl
theorem ask13_s1 (v : Int) : (ask13 c q).setIfInBounds 1 (.int .i64 v) = ask13 c v := rfl
end
abbrev askN (x : Ask13) : Array Value := ask13 (x.c : Int) x.q
def AskNOk (x : Ask13) : Prop := x.c ≤ 255 ∧ (-9223372036854775808 ≤ x.q ∧ x.q ≤ 9223372036854775807)
theorem row_ask13 : RowTy 75 2 (ask13 0 0) := ⟨⟨_, Try.underlying75, rfl⟩, by kernel_rfl, by kernel_rfl⟩
theorem ask13_all (c q : Int) : (ask13 c q).extract 0 (0 + 2) = ask13 c q := by simp
theorem ask13_cells (c q : Int) : Cells 2 (ask13 c q) := ⟨rfl, by simp [Value.oneCell']⟩
theorem ask13_splice (c q c' q' : Int) : splice (ask13 c q) 0 (ask13 c' q') = ask13 c' q' := splice_all rfl
theorem flat_ask13 : flat Try.prog 9 75 = some [23, 2] := by kernel_rfl
def AskNArg (w : World) (v : Value) : Prop := ∃ x : Ask13, v = .agg (askN x) ∧ AskNOk x
theorem open_ask13 {H : Type} {enc : TypeId × Value → H} {W : World} {held : Bool} {v : Value} {d : DataW H} {p : List MemPlace} {r : Reach} {b0 : Nat}
    (hval : Value.okWide Try.prog W r b0 75 v) (h : DataW.Trod enc Try.prog W 0 (fun _ => true) held 75 v d p) : AskNArg W v := by
  obtain ⟨cs, rfl, hn, hp⟩ := open_flat (.inl ⟨_, Try.underlying75⟩) flat_ask13 hval h
  obtain ⟨x0, h0, k0⟩ := hp 0 _ rfl
  obtain ⟨x1, h1, k1⟩ := hp 1 _ rfl
  obtain ⟨w0, rfl, q0⟩ := leaf_cur k0
  obtain ⟨w1, rfl, q1⟩ := leaf_i64 k1
  obtain ⟨l⟩ := cs
  refine ⟨⟨w0, w1⟩, ?_, q0, q1⟩
  match l, hn with
  | [c0, c1], _ => simp at h0 h1; subst_vars; rfl
end Go.Proofs.Ytgobnamhdkbbeaa
