/- countinghouselaw03.Made: a ledger of whatever acts. -/
import Derived.Test.YtacglcpjbepfnaaLed6
import Derived.Test.YtacglcpjbepfnaaLed9
import Derived.Test.YtacglcpjbepfnaaLedBack
import Derived.Test.YtacglcpjbepfnaaOpen03
namespace Go.Proofs.Ytacglcpjbepfnaa
open Go.RowKit
set_option linter.unusedSimpArgs false
set_option linter.unusedVariables false
theorem cell_u8 : CellTy 5 := ⟨⟨_, Try.underlying5, rfl⟩, by kernel_rfl⟩
/-- What an act makes of a ledger. -/
def actS (S : Lgr) (x : LAct) : Lgr :=
  if x.k % 8 = 0 then openS S x.a else if x.k % 8 = 1 ∨ x.k % 8 = 2 then trustS S x.a x.b x.c x.n else if x.k % 8 = 3 ∨ x.k % 8 = 4 ∨ x.k % 8 = 5 then pushS S x.a x.b x.c x.n else if x.k % 8 = 6 then forgS S x.a x.b x.c x.n else S
def madeS (F : List LAct) : Lgr := F.foldl actS Lgr.new
theorem actS_good {S : Lgr} (G : S.Good) (x : LAct) : (actS S x).Good := by
  unfold actS
  split
  · exact G.open _
  · split
    · exact G.trust _ _ _ _
    · split
      · exact G.push _ _ _ _
      · split
        · exact G.forg _ _ _ _
        · exact G
theorem foldl_good : ∀ (F : List LAct) (S : Lgr), S.Good → (F.foldl actS S).Good
  | [], _, G => G
  | x :: F, S, G => foldl_good F _ (actS_good G x)
theorem madeS_good (F : List LAct) : (madeS F).Good := foldl_good F _ Lgr.new_good
theorem madeS_snoc (F : List LAct) (x : LAct) : madeS (F ++ [x]) = actS (madeS F) x := by simp [madeS, List.foldl_append]
structure MadeR (W : World) (l : List Thing) (p q n : Nat) (F : List LAct) (vi : Value) (wr : World) : Prop where
  out : ∃ k : Nat, k ≤ n ∧ vi = .int .i64 (k : Int) ∧ Heap W (LdC p (madeS (F.take k)).P (some q) :: LdM q (madeS (F.take k)).L :: l) wr
section
variable {W w : World} {l : List Thing}
set_option maxRecDepth 100000
set_option maxHeartbeats 8000000
theorem made_H (ea : Option Addr) (n ec : Nat) (F : List LAct) (hl : F.length = n) (hn : n ≤ 120) (hF : ∀ x ∈ F, ActOk x) (R : ∀ l' w', (∀ x ∈ l, x ∈ l') → Heap W l' w' → Rd w' ea (actL F)) (H : Heap W l w) :
    Calls Try.prog 16 #[.slice ea n ec] w fun e w' => ∃ p q, e = .returned (.pointer (some ⟨p, 0, none⟩)) ∧ Heap W (LdC p (madeS F).P (some q) :: LdM q (madeS F).L :: l) w' := by
  have HL := Lib.hid hl
  have HF := Lib.hid hF
  have HR := Lib.hid R
  clear hl hF R
  go_enter Try.func16, Try.ntmps16
  go_wp2_with (go_skip)
  refine (lnew_H H).mono ?_
  clear H
  rintro e w1 ⟨p, q, rfl, H⟩
  go_wp2_with (go_skip)
  have H0 := H
  clear H
  go_loopw [4] (fun i wr => MadeR W l p q n F i wr) (fun i _ => n - (intOf i).toNat)
  case atStart => exact ⟨0, Nat.zero_le _, rfl, H0⟩
  case round =>
    obtain ⟨k, hk, rfl, H⟩ := hrel.out
    clear H0 hrel
    by_cases hlt : k < n
    · have hkF : k < F.length := by rw [HL.out]; exact hlt
      have hlen : k * 5 + 5 ≤ (actL F).length := by rw [actL_len]; omega
      have hrow := actL_row F k hkF
      have hok := HF.out F[k] (List.getElem_mem hkF)
      have hsn : madeS (F.take (k + 1)) = actS (madeS (F.take k)) F[k] := by rw [take_snoc F k hkF, madeS_snoc]
      have HG := Lib.hid (madeS_good (F.take k))
      have HSN := Lib.hid hsn
      clear hsn
      generalize F[k] = x at *
      generalize madeS (F.take k) = S at *
      obtain ⟨xk, xa, xb, xc, xn⟩ := x
      obtain ⟨o0, o1, o2, o3, o4⟩ := hok
      simp only at o0 o1 o2 o3 o4 hrow
      have HO := Lib.hid o4
      have hbr := HR.out (LdC p S.P (some q) :: LdM q S.L :: l)
      obtain ⟨ba, oa, rfl, _⟩ := (HR.out _ _ (fun t ht => List.mem_cons_of_mem _ (List.mem_cons_of_mem _ ht)) H).lt (by omega)
      have HRd := Lib.hid (show Rd wr (some ⟨ba, oa, none⟩) (actL F) from HR.out _ _ (fun t ht => List.mem_cons_of_mem _ (List.mem_cons_of_mem _ ht)) H)
      clear hbr
      have hr : xk % 8 = 0 ∨ xk % 8 = 1 ∨ xk % 8 = 2 ∨ xk % 8 = 3 ∨ xk % 8 = 4 ∨ xk % 8 = 5 ∨ xk % 8 = 6 ∨ xk % 8 = 7 := by omega
      rcases hr with hr | hr | hr | hr | hr | hr | hr | hr
      · have h8 : Int.tmod (xk : Int) 8 = 0 := by rw [Int.tmod_eq_emod_of_nonneg (by omega)]; omega
        have HE := Lib.hid (show madeS (F.take (k + 1)) = openS S xa by rw [HSN.out]; unfold actS; simp [hr])
        clear hr
        go_wp2_with (first
          | go_skip
          | ((with_reducible show wpList _ _ _ (_ :: _) _ _); (with_reducible apply wpl_loadRdR row_act); (· rfl); (· rfl); (· exact HRd.out); (· rfl); (· exact hlen); (· decide); (· exact hrow); (simp only [Act.put, List.setIfInBounds_toArray, List.set_cons_zero, List.set_cons_succ]))
          | ((with_reducible show wpList _ _ _ (_ :: _) _ _); (with_reducible apply wpl_allocRH row_act); (· rfl); (· exact H); (clear H; intro px _ H); (simp only [Act.put, List.setIfInBounds_toArray, List.set_cons_zero, List.set_cons_succ]))
          | ((with_reducible show wpList _ _ _ (_ :: _) _ _); (with_reducible apply wpl_storeRH row_act); (· rfl); (· rfl); (· rfl); (· with_reducible exact act_cells ..); (· exact H); (· (repeat (first | (with_reducible exact List.mem_cons_self) | with_reducible apply List.mem_cons_of_mem))); (· (simp only [act_sz, Nat.reduceAdd, Nat.reduceLeDiff, Nat.le_refl]; done)); (· with_reducible exact act_splice ..); (· (repeat (first | (with_reducible exact Repl.here) | with_reducible apply Repl.there))); (clear H; intro _ H); (simp only [Act.put, List.setIfInBounds_toArray, List.set_cons_zero, List.set_cons_succ]))
          | ((with_reducible show wpList _ _ _ (_ :: _) _ _); (with_reducible apply wpl_loadCH); (· first | exact cell_u8 | exact cell_party | exact cell_cur | exact cell_i64); (· rfl); (· rfl); (· exact H); (· (repeat (first | (with_reducible exact List.mem_cons_self) | with_reducible apply List.mem_cons_of_mem))); (· with_reducible first | exact act_g0 .. | exact act_g1 .. | exact act_g2 .. | exact act_g3 .. | exact act_g4 ..); (simp only [Act.put, List.setIfInBounds_toArray, List.set_cons_zero, List.set_cons_succ])))
        refine (lopen_H (p := p) (q := q) (S := S) xa o1 (H.pull (.there .here))).mono ?_
        clear H
        rintro e w2 ⟨rfl, H⟩
        go_wp2_with (go_skip)
        refine ⟨⟨k + 1, by omega, by go_num, ?_⟩, ?measure0⟩
        · rw [HE.out, open_L]
          exact H.drop (.there .here)
        case measure0 => simp [intOf]; omega
      · have h8 : Int.tmod (xk : Int) 8 = 1 := by rw [Int.tmod_eq_emod_of_nonneg (by omega)]; omega
        have HE := Lib.hid (show madeS (F.take (k + 1)) = trustS S xa xb xc xn by rw [HSN.out]; unfold actS; simp [hr])
        clear hr
        go_wp2_with (first
          | go_skip
          | ((with_reducible show wpList _ _ _ (_ :: _) _ _); (with_reducible apply wpl_loadRdR row_act); (· rfl); (· rfl); (· exact HRd.out); (· rfl); (· exact hlen); (· decide); (· exact hrow); (simp only [Act.put, List.setIfInBounds_toArray, List.set_cons_zero, List.set_cons_succ]))
          | ((with_reducible show wpList _ _ _ (_ :: _) _ _); (with_reducible apply wpl_allocRH row_act); (· rfl); (· exact H); (clear H; intro px _ H); (simp only [Act.put, List.setIfInBounds_toArray, List.set_cons_zero, List.set_cons_succ]))
          | ((with_reducible show wpList _ _ _ (_ :: _) _ _); (with_reducible apply wpl_storeRH row_act); (· rfl); (· rfl); (· rfl); (· with_reducible exact act_cells ..); (· exact H); (· (repeat (first | (with_reducible exact List.mem_cons_self) | with_reducible apply List.mem_cons_of_mem))); (· (simp only [act_sz, Nat.reduceAdd, Nat.reduceLeDiff, Nat.le_refl]; done)); (· with_reducible exact act_splice ..); (· (repeat (first | (with_reducible exact Repl.here) | with_reducible apply Repl.there))); (clear H; intro _ H); (simp only [Act.put, List.setIfInBounds_toArray, List.set_cons_zero, List.set_cons_succ]))
          | ((with_reducible show wpList _ _ _ (_ :: _) _ _); (with_reducible apply wpl_loadCH); (· first | exact cell_u8 | exact cell_party | exact cell_cur | exact cell_i64); (· rfl); (· rfl); (· exact H); (· (repeat (first | (with_reducible exact List.mem_cons_self) | with_reducible apply List.mem_cons_of_mem))); (· with_reducible first | exact act_g0 .. | exact act_g1 .. | exact act_g2 .. | exact act_g3 .. | exact act_g4 ..); (simp only [Act.put, List.setIfInBounds_toArray, List.set_cons_zero, List.set_cons_succ])))
        refine (ltrust_H (p := p) (q := q) (S := S) xa xb xc xn o1 o2 o3 HG.out (H.top2 (.there .here) (.there .here))).mono ?_
        clear H
        rintro e w2 ⟨rfl, H⟩
        go_wp2_with (go_skip)
        refine ⟨⟨k + 1, by omega, by go_num, ?_⟩, ?measure1⟩
        · rw [HE.out, trust_P]
          exact H.drop (.there (.there .here))
        case measure1 => simp [intOf]; omega
      · have h8 : Int.tmod (xk : Int) 8 = 2 := by rw [Int.tmod_eq_emod_of_nonneg (by omega)]; omega
        have HE := Lib.hid (show madeS (F.take (k + 1)) = trustS S xa xb xc xn by rw [HSN.out]; unfold actS; simp [hr])
        clear hr
        go_wp2_with (first
          | go_skip
          | ((with_reducible show wpList _ _ _ (_ :: _) _ _); (with_reducible apply wpl_loadRdR row_act); (· rfl); (· rfl); (· exact HRd.out); (· rfl); (· exact hlen); (· decide); (· exact hrow); (simp only [Act.put, List.setIfInBounds_toArray, List.set_cons_zero, List.set_cons_succ]))
          | ((with_reducible show wpList _ _ _ (_ :: _) _ _); (with_reducible apply wpl_allocRH row_act); (· rfl); (· exact H); (clear H; intro px _ H); (simp only [Act.put, List.setIfInBounds_toArray, List.set_cons_zero, List.set_cons_succ]))
          | ((with_reducible show wpList _ _ _ (_ :: _) _ _); (with_reducible apply wpl_storeRH row_act); (· rfl); (· rfl); (· rfl); (· with_reducible exact act_cells ..); (· exact H); (· (repeat (first | (with_reducible exact List.mem_cons_self) | with_reducible apply List.mem_cons_of_mem))); (· (simp only [act_sz, Nat.reduceAdd, Nat.reduceLeDiff, Nat.le_refl]; done)); (· with_reducible exact act_splice ..); (· (repeat (first | (with_reducible exact Repl.here) | with_reducible apply Repl.there))); (clear H; intro _ H); (simp only [Act.put, List.setIfInBounds_toArray, List.set_cons_zero, List.set_cons_succ]))
          | ((with_reducible show wpList _ _ _ (_ :: _) _ _); (with_reducible apply wpl_loadCH); (· first | exact cell_u8 | exact cell_party | exact cell_cur | exact cell_i64); (· rfl); (· rfl); (· exact H); (· (repeat (first | (with_reducible exact List.mem_cons_self) | with_reducible apply List.mem_cons_of_mem))); (· with_reducible first | exact act_g0 .. | exact act_g1 .. | exact act_g2 .. | exact act_g3 .. | exact act_g4 ..); (simp only [Act.put, List.setIfInBounds_toArray, List.set_cons_zero, List.set_cons_succ])))
        refine (ltrust_H (p := p) (q := q) (S := S) xa xb xc xn o1 o2 o3 HG.out (H.top2 (.there .here) (.there .here))).mono ?_
        clear H
        rintro e w2 ⟨rfl, H⟩
        go_wp2_with (go_skip)
        refine ⟨⟨k + 1, by omega, by go_num, ?_⟩, ?measure2⟩
        · rw [HE.out, trust_P]
          exact H.drop (.there (.there .here))
        case measure2 => simp [intOf]; omega
      · have h8 : Int.tmod (xk : Int) 8 = 3 := by rw [Int.tmod_eq_emod_of_nonneg (by omega)]; omega
        have HE := Lib.hid (show madeS (F.take (k + 1)) = pushS S xa xb xc xn by rw [HSN.out]; unfold actS; simp [hr])
        clear hr
        go_wp2_with (first
          | go_skip
          | ((with_reducible show wpList _ _ _ (_ :: _) _ _); (with_reducible apply wpl_loadRdR row_act); (· rfl); (· rfl); (· exact HRd.out); (· rfl); (· exact hlen); (· decide); (· exact hrow); (simp only [Act.put, List.setIfInBounds_toArray, List.set_cons_zero, List.set_cons_succ]))
          | ((with_reducible show wpList _ _ _ (_ :: _) _ _); (with_reducible apply wpl_allocRH row_act); (· rfl); (· exact H); (clear H; intro px _ H); (simp only [Act.put, List.setIfInBounds_toArray, List.set_cons_zero, List.set_cons_succ]))
          | ((with_reducible show wpList _ _ _ (_ :: _) _ _); (with_reducible apply wpl_storeRH row_act); (· rfl); (· rfl); (· rfl); (· with_reducible exact act_cells ..); (· exact H); (· (repeat (first | (with_reducible exact List.mem_cons_self) | with_reducible apply List.mem_cons_of_mem))); (· (simp only [act_sz, Nat.reduceAdd, Nat.reduceLeDiff, Nat.le_refl]; done)); (· with_reducible exact act_splice ..); (· (repeat (first | (with_reducible exact Repl.here) | with_reducible apply Repl.there))); (clear H; intro _ H); (simp only [Act.put, List.setIfInBounds_toArray, List.set_cons_zero, List.set_cons_succ]))
          | ((with_reducible show wpList _ _ _ (_ :: _) _ _); (with_reducible apply wpl_loadCH); (· first | exact cell_u8 | exact cell_party | exact cell_cur | exact cell_i64); (· rfl); (· rfl); (· exact H); (· (repeat (first | (with_reducible exact List.mem_cons_self) | with_reducible apply List.mem_cons_of_mem))); (· with_reducible first | exact act_g0 .. | exact act_g1 .. | exact act_g2 .. | exact act_g3 .. | exact act_g4 ..); (simp only [Act.put, List.setIfInBounds_toArray, List.set_cons_zero, List.set_cons_succ])))
        refine (lpush_H (p := p) (q := q) (S := S) xa xb xc xn o1 o2 o3 HO.out HG.out (H.top2 (.there .here) (.there .here))).mono ?_
        clear H
        rintro e w2 ⟨rfl, H⟩
        go_wp2_with (go_skip)
        refine ⟨⟨k + 1, by omega, by go_num, ?_⟩, ?measure3⟩
        · rw [HE.out, push_P]
          exact H.drop (.there (.there .here))
        case measure3 => simp [intOf]; omega
      · have h8 : Int.tmod (xk : Int) 8 = 4 := by rw [Int.tmod_eq_emod_of_nonneg (by omega)]; omega
        have HE := Lib.hid (show madeS (F.take (k + 1)) = pushS S xa xb xc xn by rw [HSN.out]; unfold actS; simp [hr])
        clear hr
        go_wp2_with (first
          | go_skip
          | ((with_reducible show wpList _ _ _ (_ :: _) _ _); (with_reducible apply wpl_loadRdR row_act); (· rfl); (· rfl); (· exact HRd.out); (· rfl); (· exact hlen); (· decide); (· exact hrow); (simp only [Act.put, List.setIfInBounds_toArray, List.set_cons_zero, List.set_cons_succ]))
          | ((with_reducible show wpList _ _ _ (_ :: _) _ _); (with_reducible apply wpl_allocRH row_act); (· rfl); (· exact H); (clear H; intro px _ H); (simp only [Act.put, List.setIfInBounds_toArray, List.set_cons_zero, List.set_cons_succ]))
          | ((with_reducible show wpList _ _ _ (_ :: _) _ _); (with_reducible apply wpl_storeRH row_act); (· rfl); (· rfl); (· rfl); (· with_reducible exact act_cells ..); (· exact H); (· (repeat (first | (with_reducible exact List.mem_cons_self) | with_reducible apply List.mem_cons_of_mem))); (· (simp only [act_sz, Nat.reduceAdd, Nat.reduceLeDiff, Nat.le_refl]; done)); (· with_reducible exact act_splice ..); (· (repeat (first | (with_reducible exact Repl.here) | with_reducible apply Repl.there))); (clear H; intro _ H); (simp only [Act.put, List.setIfInBounds_toArray, List.set_cons_zero, List.set_cons_succ]))
          | ((with_reducible show wpList _ _ _ (_ :: _) _ _); (with_reducible apply wpl_loadCH); (· first | exact cell_u8 | exact cell_party | exact cell_cur | exact cell_i64); (· rfl); (· rfl); (· exact H); (· (repeat (first | (with_reducible exact List.mem_cons_self) | with_reducible apply List.mem_cons_of_mem))); (· with_reducible first | exact act_g0 .. | exact act_g1 .. | exact act_g2 .. | exact act_g3 .. | exact act_g4 ..); (simp only [Act.put, List.setIfInBounds_toArray, List.set_cons_zero, List.set_cons_succ])))
        refine (lpush_H (p := p) (q := q) (S := S) xa xb xc xn o1 o2 o3 HO.out HG.out (H.top2 (.there .here) (.there .here))).mono ?_
        clear H
        rintro e w2 ⟨rfl, H⟩
        go_wp2_with (go_skip)
        refine ⟨⟨k + 1, by omega, by go_num, ?_⟩, ?measure4⟩
        · rw [HE.out, push_P]
          exact H.drop (.there (.there .here))
        case measure4 => simp [intOf]; omega
      · have h8 : Int.tmod (xk : Int) 8 = 5 := by rw [Int.tmod_eq_emod_of_nonneg (by omega)]; omega
        have HE := Lib.hid (show madeS (F.take (k + 1)) = pushS S xa xb xc xn by rw [HSN.out]; unfold actS; simp [hr])
        clear hr
        go_wp2_with (first
          | go_skip
          | ((with_reducible show wpList _ _ _ (_ :: _) _ _); (with_reducible apply wpl_loadRdR row_act); (· rfl); (· rfl); (· exact HRd.out); (· rfl); (· exact hlen); (· decide); (· exact hrow); (simp only [Act.put, List.setIfInBounds_toArray, List.set_cons_zero, List.set_cons_succ]))
          | ((with_reducible show wpList _ _ _ (_ :: _) _ _); (with_reducible apply wpl_allocRH row_act); (· rfl); (· exact H); (clear H; intro px _ H); (simp only [Act.put, List.setIfInBounds_toArray, List.set_cons_zero, List.set_cons_succ]))
          | ((with_reducible show wpList _ _ _ (_ :: _) _ _); (with_reducible apply wpl_storeRH row_act); (· rfl); (· rfl); (· rfl); (· with_reducible exact act_cells ..); (· exact H); (· (repeat (first | (with_reducible exact List.mem_cons_self) | with_reducible apply List.mem_cons_of_mem))); (· (simp only [act_sz, Nat.reduceAdd, Nat.reduceLeDiff, Nat.le_refl]; done)); (· with_reducible exact act_splice ..); (· (repeat (first | (with_reducible exact Repl.here) | with_reducible apply Repl.there))); (clear H; intro _ H); (simp only [Act.put, List.setIfInBounds_toArray, List.set_cons_zero, List.set_cons_succ]))
          | ((with_reducible show wpList _ _ _ (_ :: _) _ _); (with_reducible apply wpl_loadCH); (· first | exact cell_u8 | exact cell_party | exact cell_cur | exact cell_i64); (· rfl); (· rfl); (· exact H); (· (repeat (first | (with_reducible exact List.mem_cons_self) | with_reducible apply List.mem_cons_of_mem))); (· with_reducible first | exact act_g0 .. | exact act_g1 .. | exact act_g2 .. | exact act_g3 .. | exact act_g4 ..); (simp only [Act.put, List.setIfInBounds_toArray, List.set_cons_zero, List.set_cons_succ])))
        refine (lpush_H (p := p) (q := q) (S := S) xa xb xc xn o1 o2 o3 HO.out HG.out (H.top2 (.there .here) (.there .here))).mono ?_
        clear H
        rintro e w2 ⟨rfl, H⟩
        go_wp2_with (go_skip)
        refine ⟨⟨k + 1, by omega, by go_num, ?_⟩, ?measure5⟩
        · rw [HE.out, push_P]
          exact H.drop (.there (.there .here))
        case measure5 => simp [intOf]; omega
      · have h8 : Int.tmod (xk : Int) 8 = 6 := by rw [Int.tmod_eq_emod_of_nonneg (by omega)]; omega
        have HE := Lib.hid (show madeS (F.take (k + 1)) = forgS S xa xb xc xn by rw [HSN.out]; unfold actS; simp [hr])
        clear hr
        go_wp2_with (first
          | go_skip
          | ((with_reducible show wpList _ _ _ (_ :: _) _ _); (with_reducible apply wpl_loadRdR row_act); (· rfl); (· rfl); (· exact HRd.out); (· rfl); (· exact hlen); (· decide); (· exact hrow); (simp only [Act.put, List.setIfInBounds_toArray, List.set_cons_zero, List.set_cons_succ]))
          | ((with_reducible show wpList _ _ _ (_ :: _) _ _); (with_reducible apply wpl_allocRH row_act); (· rfl); (· exact H); (clear H; intro px _ H); (simp only [Act.put, List.setIfInBounds_toArray, List.set_cons_zero, List.set_cons_succ]))
          | ((with_reducible show wpList _ _ _ (_ :: _) _ _); (with_reducible apply wpl_storeRH row_act); (· rfl); (· rfl); (· rfl); (· with_reducible exact act_cells ..); (· exact H); (· (repeat (first | (with_reducible exact List.mem_cons_self) | with_reducible apply List.mem_cons_of_mem))); (· (simp only [act_sz, Nat.reduceAdd, Nat.reduceLeDiff, Nat.le_refl]; done)); (· with_reducible exact act_splice ..); (· (repeat (first | (with_reducible exact Repl.here) | with_reducible apply Repl.there))); (clear H; intro _ H); (simp only [Act.put, List.setIfInBounds_toArray, List.set_cons_zero, List.set_cons_succ]))
          | ((with_reducible show wpList _ _ _ (_ :: _) _ _); (with_reducible apply wpl_loadCH); (· first | exact cell_u8 | exact cell_party | exact cell_cur | exact cell_i64); (· rfl); (· rfl); (· exact H); (· (repeat (first | (with_reducible exact List.mem_cons_self) | with_reducible apply List.mem_cons_of_mem))); (· with_reducible first | exact act_g0 .. | exact act_g1 .. | exact act_g2 .. | exact act_g3 .. | exact act_g4 ..); (simp only [Act.put, List.setIfInBounds_toArray, List.set_cons_zero, List.set_cons_succ])))
        refine (lforg_H (p := p) (q := q) (S := S) xa xb xc xn o1 o2 o3 HO.out HG.out (H.top2 (.there .here) (.there .here))).mono ?_
        clear H
        rintro e w2 ⟨rfl, H⟩
        go_wp2_with (go_skip)
        refine ⟨⟨k + 1, by omega, by go_num, ?_⟩, ?measure6⟩
        · rw [HE.out, forg_P]
          exact H.drop (.there (.there .here))
        case measure6 => simp [intOf]; omega
      · have h8 : Int.tmod (xk : Int) 8 = 7 := by rw [Int.tmod_eq_emod_of_nonneg (by omega)]; omega
        have HE := Lib.hid (show madeS (F.take (k + 1)) = S by rw [HSN.out]; unfold actS; simp [hr])
        clear hr
        go_wp2_with (first
          | go_skip
          | ((with_reducible show wpList _ _ _ (_ :: _) _ _); (with_reducible apply wpl_loadRdR row_act); (· rfl); (· rfl); (· exact HRd.out); (· rfl); (· exact hlen); (· decide); (· exact hrow); (simp only [Act.put, List.setIfInBounds_toArray, List.set_cons_zero, List.set_cons_succ]))
          | ((with_reducible show wpList _ _ _ (_ :: _) _ _); (with_reducible apply wpl_allocRH row_act); (· rfl); (· exact H); (clear H; intro px _ H); (simp only [Act.put, List.setIfInBounds_toArray, List.set_cons_zero, List.set_cons_succ]))
          | ((with_reducible show wpList _ _ _ (_ :: _) _ _); (with_reducible apply wpl_storeRH row_act); (· rfl); (· rfl); (· rfl); (· with_reducible exact act_cells ..); (· exact H); (· (repeat (first | (with_reducible exact List.mem_cons_self) | with_reducible apply List.mem_cons_of_mem))); (· (simp only [act_sz, Nat.reduceAdd, Nat.reduceLeDiff, Nat.le_refl]; done)); (· with_reducible exact act_splice ..); (· (repeat (first | (with_reducible exact Repl.here) | with_reducible apply Repl.there))); (clear H; intro _ H); (simp only [Act.put, List.setIfInBounds_toArray, List.set_cons_zero, List.set_cons_succ]))
          | ((with_reducible show wpList _ _ _ (_ :: _) _ _); (with_reducible apply wpl_loadCH); (· first | exact cell_u8 | exact cell_party | exact cell_cur | exact cell_i64); (· rfl); (· rfl); (· exact H); (· (repeat (first | (with_reducible exact List.mem_cons_self) | with_reducible apply List.mem_cons_of_mem))); (· with_reducible first | exact act_g0 .. | exact act_g1 .. | exact act_g2 .. | exact act_g3 .. | exact act_g4 ..); (simp only [Act.put, List.setIfInBounds_toArray, List.set_cons_zero, List.set_cons_succ])))
        refine ⟨⟨k + 1, by omega, by go_num, ?_⟩, ?measure7⟩
        · rw [HE.out]
          exact H.tail
        case measure7 => simp [intOf]; omega
    · obtain rfl : k = n := by omega
      rw [List.take_of_length_le (by rw [HL.out]; exact Nat.le_refl _)] at H
      go_wp2_with (go_skip)
      go_ret
      exact ⟨p, q, rfl, H⟩
end
end Go.Proofs.Ytacglcpjbepfnaa
