/- books: Best. -/
import Derived.Test.YtacglcpjbepfnaaBok9
namespace Go.Proofs.Ytacglcpjbepfnaa
open Go.RowKit Go.Sort
set_option linter.unusedSimpArgs false
set_option linter.unusedVariables false
set_option maxRecDepth 100000
theorem row_rk : RowTy 143 7 (ofrA ofrZ) := ⟨⟨_, Try.underlying143, rfl⟩, by kernel_rfl, by kernel_rfl⟩
theorem slR : SlTy Try.prog 142 143 7 40 (.agg (ofrA ofrZ)) := slTy_mk Try.underlying142 (by kernel_rfl) rfl (by decide)
theorem bs_rk : Try.prog.underlying 142 = some (.slice 143) ∧ (Try.prog.info? 143).map (fun i => (i.size, i.zero.map Value.cells)) = some ((ofrA ofrZ).size, some (ofrA ofrZ)) ∧ 0 < (ofrA ofrZ).size ∧ (ofrA ofrZ).size ≤ 65536 := ⟨Try.underlying142, by kernel_rfl, by decide, by decide⟩
theorem filt_succ {L : List Ofr} {k : Nat} {x : Ofr} (se bu : Int) (h : L[k]? = some x) : (L.take (k + 1)).filter (ofC se bu) = (L.take k).filter (ofC se bu) ++ if ofC se bu x = true then [x] else [] := by
  rw [List.take_add_one, h, Option.toList_some, List.filter_append]
  congr 1
  by_cases ho : ofC se bu x = true
  · rw [if_pos ho, List.filter_cons_of_pos ho]; rfl
  · rw [if_neg ho, List.filter_cons_of_neg ho]; rfl
theorem out_step {S : List Ofr} {k : Nat} {x : Ofr} {xs0 : List Value} (h : S[k]? = some x) (hl : xs0.length = S.length * 7) :
    (ofrL (S.take k) ++ xs0.drop (k * 7)).take (k * 7) ++ (ofrA x).toList ++ (ofrL (S.take k) ++ xs0.drop (k * 7)).drop (k * 7 + 7) = ofrL (S.take (k + 1)) ++ xs0.drop ((k + 1) * 7) := by
  have hk := (List.getElem?_eq_some_iff.1 h).1
  have h1 : (ofrL (S.take k)).length = k * 7 := by rw [ofrL_len, List.length_take, Nat.min_eq_left (by omega)]
  rw [List.take_add_one, h, Option.toList_some, ofrL_app, ofrL_one]
  congr 1
  · congr 1
    rw [← h1]
    exact List.take_left
  · rw [← h1, ← List.drop_drop, List.drop_left, List.drop_drop, h1]
    congr 1
    omega
structure BestR1 (W : World) (l : List Thing) (L : List Ofr) (se bu : Int) (n : Nat) (v i : Value) (wr : World) : Prop where
  out : ∃ k m : Nat, k ≤ n ∧ i = .int .i64 (k : Int) ∧ ((L.take k).filter (ofC se bu)).length = m ∧ Heap W (RowT 143 7 v m (ofrL ((L.take k).filter (ofC se bu))) :: l) wr
structure BestR2 (W : World) (l : List Thing) (S : List Ofr) (g m : Nat) (xs0 : List Value) (i : Value) (wr : World) : Prop where
  out : ∃ k : Nat, k ≤ m ∧ i = .int .i64 (k : Int) ∧ Heap W (OwnT 83 7 (.slice (some ⟨g, 0, none⟩) m m) m (ofrL (S.take k) ++ xs0.drop (k * 7)) :: l) wr
theorem best_few {B : Bok} (G : B.Good) (se bu : Int) : (B.L.filter (ofC se bu)).length ≤ 32 := Nat.le_trans (List.length_filter_le ..) G.few
section
variable {W w : World} {l : List Thing}
set_option maxHeartbeats 8000000
theorem best_nil (se bu : Int) (H : Heap W l w) : Calls Try.prog 53 #[.pointer none, .int .u8 se, .int .u8 bu] w fun e w' => ∃ g, e = .returned (.slice (some ⟨g, 0, none⟩) 0 0) ∧ Heap W l w' := by
  have T := all_nil
  have SN := fun W => sortR_none none 0 (.func (.func 103) #[] #[]) W
  go_enter Try.func53, Try.ntmps53
  go_wp2_with (first | go_skip | ((with_reducible refine Ans.callH (by assumption) H ?_); clear H; intro _ H))
  refine wp_loop_rounds 1 ?_
  rw [rounds_succ]
  go_wp2_with (first
    | ((with_reducible show wpList _ _ _ (_ :: _) _ _); (with_reducible apply wpl_makeC slO (n := 0) (m := 0)); (· rfl); (· rfl); (· rfl); (· rfl); (· exact Nat.le_refl _); (· omega); (· omega); (· exact H); (clear H; intro pm _ H); (simp only [Act.put, List.setIfInBounds_toArray, List.set_cons_zero, List.set_cons_succ]))
    | go_skip
    | ((refine (SN _).mono ?_); rintro e w' ⟨rfl, rfl⟩))
  refine wp_loop_rounds 1 ?_
  rw [rounds_succ]
  go_wp2_with (first | go_skip)
  go_ret
  exact ⟨_, rfl, H.tail⟩
theorem best_zero {p : Nat} {v : Value} (se bu : Int) (m : BkB p v 0 ∈ l) (H : Heap W l w) : Calls Try.prog 53 #[.pointer (some ⟨p, 0, none⟩), .int .u8 se, .int .u8 bu] w fun e w' => ∃ g, e = .returned (.slice (some ⟨g, 0, none⟩) 0 0) ∧ Heap W l w' := by
  have T := all_zero (W := W) m
  have SN := fun W => sortR_none none 0 (.func (.func 103) #[] #[]) W
  go_enter Try.func53, Try.ntmps53
  go_wp2_with (first | go_skip | ((with_reducible refine AnsH.call (by assumption) H ?_); clear H; intro _ H))
  refine wp_loop_rounds 1 ?_
  rw [rounds_succ]
  go_wp2_with (first
    | ((with_reducible show wpList _ _ _ (_ :: _) _ _); (with_reducible apply wpl_makeC slO (n := 0) (m := 0)); (· rfl); (· rfl); (· rfl); (· rfl); (· exact Nat.le_refl _); (· omega); (· omega); (· exact H); (clear H; intro pm _ H); (simp only [Act.put, List.setIfInBounds_toArray, List.set_cons_zero, List.set_cons_succ]))
    | go_skip
    | ((refine (SN _).mono ?_); rintro e w' ⟨rfl, rfl⟩))
  refine wp_loop_rounds 1 ?_
  rw [rounds_succ]
  go_wp2_with (first | go_skip)
  go_ret
  exact ⟨_, rfl, H.tail⟩
theorem best_H {p : Nat} {v : Value} {B : Bok} (se bu : Int) (G : B.Good) (m1 : BkB p v B.nx ∈ l) (m2 : OfT v B.L.length B.L ∈ l) (H : Heap W l w) :
    Calls Try.prog 53 #[.pointer (some ⟨p, 0, none⟩), .int .u8 se, .int .u8 bu] w fun e w' => ∃ v', e = .returned v' ∧ Heap W (OwO v' (bestO B.L se bu).length (bestO B.L se bu) :: l) w' := by
  have hfew := G.few
  have hnx := G.nx.1
  have hff := best_few G se bu
  have HB := Lib.hid (G.best se bu)
  have hmy := Lib.hid (fun o (ho : o ∈ B.L.filter (ofC se bu)) => (mayO_iff.1 (G.ok o (List.mem_filter.1 ho).1).1).2.2.2.2.2)
  generalize B.L = L at *
  generalize hn : L.length = n at *
  generalize bestO L se bu = S at *
  go_enter Try.func53, Try.ntmps53
  go_wp2_with (go_skip)
  refine (all_H m1 m2 (by omega) hn (by omega) H).mono ?_
  clear H
  rintro e w1 ⟨v1, rfl, H⟩
  clear m1 m2 hnx
  have hv1 : ∃ a1 c1, v1 = .slice a1 n c1 := by
    rcases (H.ok _ List.mem_cons_self).2 with ⟨rfl, rfl⟩ | ⟨g, off, cap, cur, rfl, _⟩
    · exact ⟨_, _, rfl⟩
    · exact ⟨_, _, rfl⟩
  obtain ⟨a1, c1, rfl⟩ := hv1
  have HN := Lib.hid hn
  clear hn
  go_wp2_with (go_skip)
  have H0 := H.nilRow 143 7
  clear H
  go_loopw [7, 16] (fun v i wr => BestR1 W (OwO (.slice a1 n c1) n L :: l) L se bu n v i wr) (fun _ i _ => n - (intOf i).toNat)
  case atStart => exact ⟨0, 0, Nat.zero_le _, rfl, rfl, H0⟩
  case round =>
    obtain ⟨k, m, hk, rfl, hm, H⟩ := hrel.out
    clear H0 hrel
    have hm32 : m ≤ 32 := by
      have : ((L.take k).filter (ofC se bu)).length ≤ (L.take k).length := List.length_filter_le ..
      rw [List.length_take] at this
      have := HN.out
      omega
    by_cases hlt : k < n
    · have hkL : k < L.length := by rw [HN.out]; exact hlt
      have hx : L[k]? = some L[k] := List.getElem?_eq_getElem hkL
      have hrow := ofrL_get L k hkL
      have hlen : k * 7 + 7 ≤ (ofrL L).length := by rw [ofrL_len]; omega
      have HS := Lib.hid (filt_succ se bu hx)
      have HM := Lib.hid hm
      have hn1 : m + 1 ≤ maxLen := by unfold maxLen; omega
      have hn2 : (m + 1) * 40 ≤ 140737488355328 := by omega
      clear hx hm
      generalize L[k] = x at *
      generalize (L.take k).filter (ofC se bu) = D at *
      obtain ⟨ba, oa, rfl, _⟩ := (H.ownRd (List.mem_cons_of_mem _ List.mem_cons_self)).lt (by omega)
      by_cases hs : x.se = se
      · have d1 : (x.se == se) = true := by simpa using hs
        by_cases hb : x.bu = bu
        · have d2 : (x.bu == bu) = true := by simpa using hb
          have hof : ofC se bu x = true := by simp [ofC, hs, hb]
          rw [hof] at HS
          have HS2 := Lib.hid (HS.out.trans (by rw [if_pos rfl]))
          clear HS hof hs hb
          go_wp2_with (first
            | go_skip
            | ((with_reducible show wpList _ _ _ (_ :: _) _ _); (with_reducible apply wpl_loadRdR row_ofr); (· rfl); (· rfl); (· exact H.ownRd (List.mem_cons_of_mem _ List.mem_cons_self)); (· first | rfl | exact (Nat.zero_add _).symm); (· exact hlen); (· decide); (· exact hrow); (simp only [Act.put, List.setIfInBounds_toArray, List.set_cons_zero, List.set_cons_succ]))
            | ((with_reducible show wpList _ _ _ (_ :: _) _ _); (with_reducible apply wpl_allocRH row_ofr); (· rfl); (· exact H); (clear H; intro px _ H); (simp only [Act.put, List.setIfInBounds_toArray, List.set_cons_zero, List.set_cons_succ]))
            | ((with_reducible show wpList _ _ _ (_ :: _) _ _); (with_reducible apply wpl_storeRH row_ofr); (· rfl); (· rfl); (· rfl); (· with_reducible exact ofr_cells ..); (· exact H); (· (repeat (first | (with_reducible exact List.mem_cons_self) | with_reducible apply List.mem_cons_of_mem))); (· (simp only [ofrA_sz, Nat.reduceAdd, Nat.reduceLeDiff, Nat.le_refl]; done)); (· with_reducible exact ofr_splice ..); (· (repeat (first | (with_reducible exact Repl.here) | with_reducible apply Repl.there))); (clear H; intro _ H); (simp only [Act.put, List.setIfInBounds_toArray, List.set_cons_zero, List.set_cons_succ]))
            | ((with_reducible show wpList _ _ _ (_ :: _) _ _); (with_reducible apply wpl_loadCH); (· first | exact cell_u64 | exact cell_party | exact cell_cur | exact cell_i64); (· rfl); (· rfl); (· exact H); (· (repeat (first | (with_reducible exact List.mem_cons_self) | with_reducible apply List.mem_cons_of_mem))); (· with_reducible first | exact ofr_g0 .. | exact ofr_g1 .. | exact ofr_g2 .. | exact ofr_g3 .. | exact ofr_g4 ..); (simp only [Act.put, List.setIfInBounds_toArray, List.set_cons_zero, List.set_cons_succ]))
            | ((with_reducible show wpList _ _ _ (_ :: _) _ _); (with_reducible apply wpl_loadRH row_ofr); (· rfl); (· rfl); (· exact H); (· (repeat (first | (with_reducible exact List.mem_cons_self) | with_reducible apply List.mem_cons_of_mem))); (· (simp only [ofrA_sz, Nat.reduceAdd, Nat.reduceLeDiff, Nat.le_refl]; done)); (· with_reducible exact ofrA_all ..); (simp only [Act.put, List.setIfInBounds_toArray, List.set_cons_zero, List.set_cons_succ]))
            | ((with_reducible show wpList _ _ _ (_ :: _) _ _); (with_reducible apply wpl_bsRH); (· rfl); (· rfl); (· exact bs_rk); (· exact rfl); (· exact H); (clear H; intro pf _ H); (simp only [Act.put, List.setIfInBounds_toArray, List.set_cons_zero, List.set_cons_succ]))
            | ((with_reducible show wpList _ _ _ (_ :: _) _ _); (with_reducible apply wpl_appendH slR); (· rfl); (· rfl); (· rfl); (· rfl); (· exact H.pull (.there (.there .here))); (· exact H.celRd List.mem_cons_self); (· rfl); (· exact ofrA_ones _); (· exact hn1); (· exact hn2); (clear H; intro v2 _ H); (simp only [Act.put, List.setIfInBounds_toArray, List.set_cons_zero, List.set_cons_succ])))
          refine ⟨⟨k + 1, m + 1, by omega, by go_num, ?_, ?_⟩, ?measure0⟩
          · rw [HS2.out, List.length_append, HM.out]; rfl
          · rw [HS2.out, ofrL_app, ofrL_one]
            exact (H.drop (.there .here)).drop (.there .here)
          case measure0 => simp [intOf]; omega
        · have d2 : (x.bu == bu) = false := by simpa using hb
          have hof : ofC se bu x = false := by simp [ofC, hb]
          rw [hof] at HS
          have HS2 := Lib.hid (HS.out.trans (by rw [if_neg Bool.false_ne_true, List.append_nil]))
          clear HS hof hs hb
          go_wp2_with (first
            | go_skip
            | ((with_reducible show wpList _ _ _ (_ :: _) _ _); (with_reducible apply wpl_loadRdR row_ofr); (· rfl); (· rfl); (· exact H.ownRd (List.mem_cons_of_mem _ List.mem_cons_self)); (· first | rfl | exact (Nat.zero_add _).symm); (· exact hlen); (· decide); (· exact hrow); (simp only [Act.put, List.setIfInBounds_toArray, List.set_cons_zero, List.set_cons_succ]))
            | ((with_reducible show wpList _ _ _ (_ :: _) _ _); (with_reducible apply wpl_allocRH row_ofr); (· rfl); (· exact H); (clear H; intro px _ H); (simp only [Act.put, List.setIfInBounds_toArray, List.set_cons_zero, List.set_cons_succ]))
            | ((with_reducible show wpList _ _ _ (_ :: _) _ _); (with_reducible apply wpl_storeRH row_ofr); (· rfl); (· rfl); (· rfl); (· with_reducible exact ofr_cells ..); (· exact H); (· (repeat (first | (with_reducible exact List.mem_cons_self) | with_reducible apply List.mem_cons_of_mem))); (· (simp only [ofrA_sz, Nat.reduceAdd, Nat.reduceLeDiff, Nat.le_refl]; done)); (· with_reducible exact ofr_splice ..); (· (repeat (first | (with_reducible exact Repl.here) | with_reducible apply Repl.there))); (clear H; intro _ H); (simp only [Act.put, List.setIfInBounds_toArray, List.set_cons_zero, List.set_cons_succ]))
            | ((with_reducible show wpList _ _ _ (_ :: _) _ _); (with_reducible apply wpl_loadCH); (· first | exact cell_u64 | exact cell_party | exact cell_cur | exact cell_i64); (· rfl); (· rfl); (· exact H); (· (repeat (first | (with_reducible exact List.mem_cons_self) | with_reducible apply List.mem_cons_of_mem))); (· with_reducible first | exact ofr_g0 .. | exact ofr_g1 .. | exact ofr_g2 .. | exact ofr_g3 .. | exact ofr_g4 ..); (simp only [Act.put, List.setIfInBounds_toArray, List.set_cons_zero, List.set_cons_succ])))
          refine ⟨⟨k + 1, m, by omega, by go_num, by rw [HS2.out]; exact HM.out, ?_⟩, ?measure1⟩
          · rw [HS2.out]
            exact H.tail
          case measure1 => simp [intOf]; omega
      · have d1 : (x.se == se) = false := by simpa using hs
        have hof : ofC se bu x = false := by simp [ofC, hs]
        rw [hof] at HS
        have HS2 := Lib.hid (HS.out.trans (by rw [if_neg Bool.false_ne_true, List.append_nil]))
        clear HS hof hs
        go_wp2_with (first
          | go_skip
          | ((with_reducible show wpList _ _ _ (_ :: _) _ _); (with_reducible apply wpl_loadRdR row_ofr); (· rfl); (· rfl); (· exact H.ownRd (List.mem_cons_of_mem _ List.mem_cons_self)); (· first | rfl | exact (Nat.zero_add _).symm); (· exact hlen); (· decide); (· exact hrow); (simp only [Act.put, List.setIfInBounds_toArray, List.set_cons_zero, List.set_cons_succ]))
          | ((with_reducible show wpList _ _ _ (_ :: _) _ _); (with_reducible apply wpl_allocRH row_ofr); (· rfl); (· exact H); (clear H; intro px _ H); (simp only [Act.put, List.setIfInBounds_toArray, List.set_cons_zero, List.set_cons_succ]))
          | ((with_reducible show wpList _ _ _ (_ :: _) _ _); (with_reducible apply wpl_storeRH row_ofr); (· rfl); (· rfl); (· rfl); (· with_reducible exact ofr_cells ..); (· exact H); (· (repeat (first | (with_reducible exact List.mem_cons_self) | with_reducible apply List.mem_cons_of_mem))); (· (simp only [ofrA_sz, Nat.reduceAdd, Nat.reduceLeDiff, Nat.le_refl]; done)); (· with_reducible exact ofr_splice ..); (· (repeat (first | (with_reducible exact Repl.here) | with_reducible apply Repl.there))); (clear H; intro _ H); (simp only [Act.put, List.setIfInBounds_toArray, List.set_cons_zero, List.set_cons_succ]))
          | ((with_reducible show wpList _ _ _ (_ :: _) _ _); (with_reducible apply wpl_loadCH); (· first | exact cell_u64 | exact cell_party | exact cell_cur | exact cell_i64); (· rfl); (· rfl); (· exact H); (· (repeat (first | (with_reducible exact List.mem_cons_self) | with_reducible apply List.mem_cons_of_mem))); (· with_reducible first | exact ofr_g0 .. | exact ofr_g1 .. | exact ofr_g2 .. | exact ofr_g3 .. | exact ofr_g4 ..); (simp only [Act.put, List.setIfInBounds_toArray, List.set_cons_zero, List.set_cons_succ])))
        refine ⟨⟨k + 1, m, by omega, by go_num, by rw [HS2.out]; exact HM.out, ?_⟩, ?measure2⟩
        · rw [HS2.out]
          exact H.tail
        case measure2 => simp [intOf]; omega
    · obtain rfl : k = n := by omega
      rw [List.take_of_length_le (by rw [HN.out]; exact Nat.le_refl _)] at hm H
      replace H := (H.drop (.there .here)).slide
      have hpl := HB.out.2.length_eq
      have hSm : S.length = m := by rw [hpl]; exact hm
      have HSM := Lib.hid hSm
      have HM := Lib.hid hm
      clear hpl hSm
      rcases (H.ok _ List.mem_cons_self).2 with ⟨hv, hm0⟩ | ⟨gf, off, cap, cur, hv, _⟩
      · subst hv hm0
        have e0 : S = [] := List.length_eq_zero_iff.1 HSM.out
        have SN := fun W => sortR_none none 0 (.func (.func 103) #[] #[]) W
        replace H := H.tail
        have HE0 := Lib.hid e0
        clear e0 hm
        go_wp2_with (first
          | ((with_reducible show wpList _ _ _ (_ :: _) _ _); (with_reducible apply wpl_makeC slO (n := 0) (m := 0)); (· rfl); (· rfl); (· rfl); (· rfl); (· exact Nat.le_refl _); (· omega); (· omega); (· exact H); (clear H; intro pm _ H); (simp only [Act.put, List.setIfInBounds_toArray, List.set_cons_zero, List.set_cons_succ]))
          | go_skip
          | ((refine (SN _).mono ?_); rintro e w' ⟨rfl, rfl⟩))
        refine wp_loop_rounds 1 ?_
        rw [rounds_succ]
        go_wp2_with (first | go_skip)
        go_ret
        refine ⟨.slice (some ⟨pm, 0, none⟩) 0 0, rfl, ?_⟩
        have H2 := H.celOwn (n := 0) (size := 7) (by rw [size_madeCells]) (Nat.zero_le _)
        have e1 : (madeCells (Value.cells (.agg (ofrA ofrZ))) (0 * 7)).toList = [] := List.eq_nil_of_length_eq_zero (by simp [size_madeCells])
        rw [e1] at H2
        rw [HE0.out]
        exact H2
      · subst hv
        have hm1 : m ≤ 65536 := by omega
        have hm2 : 40 * m ≤ 281474976710656 := by omega
        clear hm
        go_wp2_with (go_skip)
        refine (rsort_H H hmy.out HM.out (by omega) HB.out.2.symm HB.out.1).mono ?_
        clear H
        rintro e w3 ⟨rfl, H⟩
        go_wp2_with (first
          | ((with_reducible show wpList _ _ _ (_ :: _) _ _); (with_reducible apply wpl_makeC slO (n := m) (m := m)); (· rfl); (· rfl); (· rfl); (· rfl); (· exact Nat.le_refl _); (· exact hm1); (· exact hm2); (· exact H); (clear H; intro pm _ H); (simp only [Act.put, List.setIfInBounds_toArray, List.set_cons_zero, List.set_cons_succ]))
          | go_skip)
        replace H := H.celOwn (n := m) (size := 7) (by rw [size_madeCells]) (by unfold maxLen; omega)
        obtain ⟨xs0, hx0⟩ : ∃ xs0, (madeCells (Value.cells (.agg (ofrA ofrZ))) (m * 7)).toList = xs0 := ⟨_, rfl⟩
        have hx0l : xs0.length = m * 7 := by rw [← hx0]; simp [size_madeCells]
        rw [hx0] at H
        have HX := Lib.hid hx0l
        clear hx0 hx0l
        have H0 := H
        clear H
        go_loopw [42] (fun i wr => BestR2 W (OwnT 143 7 (.slice (some ⟨gf, off, none⟩) m cap) m (ofrL S) :: l) S pm m xs0 i wr) (fun i _ => m - (intOf i).toNat)
        case atStart => exact ⟨0, Nat.zero_le _, rfl, by simpa [ofrL] using H0⟩
        case round =>
          obtain ⟨j, hj, rfl, H⟩ := hrel.out
          clear H0 hrel
          by_cases hjm : j < m
          · have hjS : j < S.length := by rw [HSM.out]; exact hjm
            have hx : S[j]? = some S[j] := List.getElem?_eq_getElem hjS
            have hrow := ofrL_get S j hjS
            have hlen : j * 7 + 7 ≤ (ofrL S).length := by rw [ofrL_len]; omega
            have HO := Lib.hid (out_step (xs0 := xs0) hx (by rw [HX.out, HSM.out]))
            have hfit : j * 7 + 7 ≤ (ofrL (S.take j) ++ xs0.drop (j * 7)).length := by
              have := HX.out
              rw [List.length_append, ofrL_len, List.length_take, List.length_drop]
              omega
            clear hx
            generalize S[j] = x at *
            go_wp2_with (first
              | go_skip
              | ((with_reducible show wpList _ _ _ (_ :: _) _ _); (with_reducible apply wpl_loadRdR row_rk); (· rfl); (· rfl); (· exact H.ownRd (List.mem_cons_of_mem _ List.mem_cons_self)); (· first | rfl | exact (Nat.zero_add _).symm); (· exact hlen); (· decide); (· exact hrow); (simp only [Act.put, List.setIfInBounds_toArray, List.set_cons_zero, List.set_cons_succ]))
              | ((with_reducible show wpList _ _ _ (_ :: _) _ _); (with_reducible apply wpl_allocRH row_rk); (· rfl); (· exact H); (clear H; intro px _ H); (simp only [Act.put, List.setIfInBounds_toArray, List.set_cons_zero, List.set_cons_succ]))
              | ((with_reducible show wpList _ _ _ (_ :: _) _ _); (with_reducible apply wpl_storeRH row_rk); (· rfl); (· rfl); (· rfl); (· with_reducible exact ofr_cells ..); (· exact H); (· (repeat (first | (with_reducible exact List.mem_cons_self) | with_reducible apply List.mem_cons_of_mem))); (· (simp only [ofrA_sz, Nat.reduceAdd, Nat.reduceLeDiff, Nat.le_refl]; done)); (· with_reducible exact ofr_splice ..); (· (repeat (first | (with_reducible exact Repl.here) | with_reducible apply Repl.there))); (clear H; intro _ H); (simp only [Act.put, List.setIfInBounds_toArray, List.set_cons_zero, List.set_cons_succ]))
              | ((with_reducible show wpList _ _ _ (_ :: _) _ _); (with_reducible apply wpl_loadRH row_rk); (· rfl); (· rfl); (· exact H); (· (repeat (first | (with_reducible exact List.mem_cons_self) | with_reducible apply List.mem_cons_of_mem))); (· (simp only [ofrA_sz, Nat.reduceAdd, Nat.reduceLeDiff, Nat.le_refl]; done)); (· with_reducible exact ofrA_all ..); (simp only [Act.put, List.setIfInBounds_toArray, List.set_cons_zero, List.set_cons_succ]))
              | ((with_reducible show wpList _ _ _ (_ :: _) _ _); (with_reducible apply wpl_storeOwnR row_ofr); (· rfl); (· rfl); (· rfl); (· exact ofr_cells _); (· exact H); (· exact List.mem_cons_of_mem _ List.mem_cons_self); (· exact (Nat.zero_add _).symm); (· exact hfit); (· exact HO.out); (· exact Repl.there Repl.here); (clear H; intro _ H); (simp only [Act.put, List.setIfInBounds_toArray, List.set_cons_zero, List.set_cons_succ])))
            refine ⟨⟨j + 1, by omega, by go_num, H.tail⟩, ?measure3⟩
            case measure3 => simp [intOf]; omega
          · obtain rfl : j = m := by omega
            go_wp2_with (go_skip)
            go_ret
            have e1 : S.take j = S := List.take_of_length_le (by rw [HSM.out]; exact Nat.le_refl _)
            have e2 : xs0.drop (j * 7) = [] := List.drop_of_length_le (by rw [HX.out]; exact Nat.le_refl _)
            rw [e1, e2, List.append_nil] at H
            refine ⟨.slice (some ⟨pm, 0, none⟩) j j, rfl, ?_⟩
            rw [HSM.out]
            exact H.drop (.there .here)
end
end Go.Proofs.Ytacglcpjbepfnaa
