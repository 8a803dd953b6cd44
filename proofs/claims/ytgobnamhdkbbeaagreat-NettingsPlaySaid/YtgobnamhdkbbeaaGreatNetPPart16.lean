/- Part 16 of what ProofNettingsPlay stands on: NetRef, BkRows, SameF, MarkF, BkFl, Lives08p, Lives13p, BsAny, Lives13. -/
import Derived.Test.YtgobnamhdkbbeaaGreatNetPPart15
import Derived.Laws.StructEq
/- countinghouseref13: Debts, Net. -/
namespace Go.Proofs.YtgobnamhdkbbeaaGreat
open Go.RowKit
set_option linter.unusedSimpArgs false
set_option linter.unusedVariables false
set_option maxRecDepth 100000
theorem lineC_deb13 (L : List Lin) (a b c : Int) : ∃ x1 x2 x3 x4, lineC L a b c = line x1 x2 x3 x4 (debOf L a b c) := by
  unfold lineC
  cases h : isLine L a b c with
  | true => exact ⟨_, _, _, _, if_pos rfl⟩
  | false => exact ⟨0, 0, 0, 0, by rw [if_neg (by simp), (Lgr.Good.noLine (S := ⟨[], L⟩) h).2.2]⟩
theorem dbtB_len (L : List Lin) (c a : Nat) : ∀ k, (dbtB L c a k).length ≤ k
  | 0 => by simp [dbtB]
  | k + 1 => by
    have := dbtB_len L c a k
    rw [dbtB, List.length_append]
    unfold dbt1
    split <;> simp <;> omega
theorem dbtA_len (L : List Lin) (c : Nat) : ∀ k, (dbtA L c k).length ≤ k * 16
  | 0 => by simp [dbtA]
  | k + 1 => by
    have := dbtA_len L c k
    have := dbtB_len L c (k + 1) 16
    rw [dbtA, List.length_append]
    omega
/-- How much of the first ones has these ends. -/
def sumM (Q : List Flw) (f t : Nat) : Int := (Q.map fun y => if endsB f t y = true then y.n else 0).sum
theorem sumM_take {Q : List Flw} {k : Nat} {y : Flw} (f t : Nat) (h : Q[k]? = some y) : sumM (Q.take (k + 1)) f t = sumM (Q.take k) f t + if endsB f t y = true then y.n else 0 := by
  unfold sumM
  rw [List.take_add_one, h, Option.toList_some, List.map_append, List.sum_append]
  simp
theorem sumM_bnd (f t : Nat) : ∀ (Q : List Flw), (∀ y ∈ Q, 0 ≤ y.n ∧ y.n ≤ 1099511627776) → 0 ≤ sumM Q f t ∧ sumM Q f t ≤ 1099511627776 * (Q.length : Int)
  | [], _ => by simp [sumM]
  | y :: Q, h => by
    have h1 := h y List.mem_cons_self
    have h2 := sumM_bnd f t Q fun z hz => h z (List.mem_cons_of_mem _ hz)
    unfold sumM at *
    rw [List.map_cons, List.sum_cons, List.length_cons]
    split <;> omega
theorem sumM_no (f t : Nat) : ∀ (Q : List Flw), (∀ y ∈ Q, ¬ (y.f = f ∧ y.t = t)) → sumM Q f t = 0
  | [], _ => rfl
  | y :: Q, h => by
    have ih := sumM_no f t Q fun z hz => h z (List.mem_cons_of_mem _ hz)
    unfold sumM at *
    rw [List.map_cons, List.sum_cons, ih, if_neg (fun e => h y List.mem_cons_self (endsB_iff.1 e))]
    rfl
theorem sumM_of (f t : Nat) : ∀ (Q : List Flw), Q.Pairwise (fun y x => cfF y x < 0) → sumM Q f t = ofF Q f t
  | [], _ => rfl
  | y :: Q, h => by
    rw [List.pairwise_cons] at h
    have ih := sumM_of f t Q h.2
    by_cases e : y.f = f ∧ y.t = t
    · have hno : ∀ z ∈ Q, ¬ (z.f = f ∧ z.t = t) := fun z hz e2 => by
        have := (cfF_lt _ _).1 (h.1 z hz)
        omega
      have h0 := sumM_no f t Q hno
      rw [ofF, if_pos e]
      unfold sumM at *
      rw [List.map_cons, List.sum_cons, if_pos (endsB_iff.2 e), h0]
      omega
    · rw [ofF, if_neg e, ← ih]
      unfold sumM
      rw [List.map_cons, List.sum_cons, if_neg (fun h => e (endsB_iff.1 h))]
      omega
structure RdbA (W : World) (l : List Thing) (L : List Lin) (c : Nat) (v i : Value) (wr : World) : Prop where
  out : ∃ a : Nat, i = .int .u8 (a : Int) ∧ 1 ≤ a ∧ a ≤ 17 ∧ Heap W (RowT 53 3 v (dbtA L c (a - 1)).length (flwL (dbtA L c (a - 1))) :: l) wr
structure RdbB (W : World) (l : List Thing) (L : List Lin) (c a : Nat) (v i : Value) (wr : World) : Prop where
  out : ∃ b : Nat, i = .int .u8 (b : Int) ∧ 1 ≤ b ∧ b ≤ 17 ∧ Heap W (RowT 53 3 v (dbtA L c (a - 1) ++ dbtB L c a (b - 1)).length (flwL (dbtA L c (a - 1) ++ dbtB L c a (b - 1))) :: l) wr
theorem dbtA_next (L : List Lin) (c : Nat) {a : Nat} (h : 1 ≤ a) : dbtA L c (a + 1 - 1) = dbtA L c (a - 1) ++ dbtB L c a 16 := by
  obtain ⟨k, rfl⟩ : ∃ k, a = k + 1 := ⟨a - 1, by omega⟩
  rfl
theorem dbtB_next (L : List Lin) (c a : Nat) {b : Nat} (h : 1 ≤ b) : dbtB L c a (b + 1 - 1) = dbtB L c a (b - 1) ++ dbt1 L c a b := by
  obtain ⟨k, rfl⟩ : ∃ k, b = k + 1 := ⟨b - 1, by omega⟩
  rfl
structure RNetR (W : World) (l : List Thing) (p c : Nat) (S : Lgr) (Q : List Flw) (i : Value) (wr : World) : Prop where
  out : ∃ k : Nat, k ≤ (dbtS S.L c).length ∧ i = .int .i64 (k : Int) ∧ RefH W l p (forgL S c Q ((dbtS S.L c).take k)) wr
structure RNetI (W : World) (l : List Thing) (Q : List Flw) (x : Flw) (v i : Value) (wr : World) : Prop where
  out : ∃ j : Nat, j ≤ Q.length ∧ i = .int .i64 (j : Int) ∧ v = .int .i64 (x.n - sumM (Q.take j) x.f x.t) ∧ Heap W l wr
section
variable {W w : World} {l : List Thing} {p : Nat} {S : Lgr}
set_option maxHeartbeats 8000000
theorem rdebts13_H (c : Nat) (hc : c ≤ 255) (G : S.Good) (M : RefM l p S) (H : Heap W l w) :
    Calls Tryz.prog 10 #[.pointer (some ⟨p, 0, none⟩), .int .u8 (c : Int)] w fun e w' => ∃ v, e = .returned v ∧ Heap W (RowT 53 3 v (dbtS S.L c).length (flwL (dbtS S.L c)) :: l) w' := by
  have hfew := G.few
  have LN := Lib.hid (fun (x : Thing) (f t : Nat) (hf : f ≤ 255) (ht : t ≤ 255) => rline_H (W := W) (l := x :: l) f t c (M.more fun y hy => List.mem_cons_of_mem _ hy) hf ht hc (by omega))
  clear M
  go_enter Tryz.func10, Tryz.ntmps10
  go_wp2_with (go_skip)
  have H0 := H.nilRow 53 3
  clear H
  go_loopw [5, 6] (fun v i wr => RdbA W l S.L c v i wr) (fun _ i _ => 17 - (intOf i).toNat)
  case atStart => exact ⟨1, rfl, by omega, by omega, H0⟩
  case round =>
    obtain ⟨a, rfl, ha1, ha2, H⟩ := hrel.out
    clear H0 hrel
    by_cases hlt : a < 17
    · have g1 : decide ((a : Int) ≤ 16) = true := by simp; omega
      go_wp2_with (go_skip)
      have H1 := H
      clear H
      go_loopw [5, 7] (fun v i wr => RdbB W l S.L c a v i wr) (fun _ i _ => 17 - (intOf i).toNat)
      case atStart => exact ⟨1, rfl, by omega, by omega, by simpa [dbtB] using H1⟩
      case round =>
        obtain ⟨b, rfl, hb1, hb2, H⟩ := hrel.out
        clear H1 hrel
        by_cases hlt2 : b < 17
        · have g2 : decide ((b : Int) ≤ 16) = true := by simp; omega
          have hl1 := dbtA_len S.L c (a - 1)
          have hl2 := dbtB_len S.L c a (b - 1)
          have HB := Lib.hid (show dbtA S.L c (a - 1) ++ dbtB S.L c a (b + 1 - 1) = dbtA S.L c (a - 1) ++ dbtB S.L c a (b - 1) ++ dbt1 S.L c a b by rw [dbtB_next S.L c a hb1, List.append_assoc])
          have LL := LN.out _ b a (by omega) (by omega) _ H
          obtain ⟨x1, x2, x3, x4, hli⟩ := lineC_deb13 S.L (b : Int) (a : Int) (c : Int)
          rw [hli] at LL
          have hn1 : (dbtA S.L c (a - 1) ++ dbtB S.L c a (b - 1)).length + 1 ≤ maxLen := by rw [List.length_append]; unfold maxLen; omega
          have hn2 : ((dbtA S.L c (a - 1) ++ dbtB S.L c a (b - 1)).length + 1) * 16 ≤ 140737488355328 := by rw [List.length_append]; omega
          clear hl1 hl2 hli
          generalize dbtA S.L c (a - 1) ++ dbtB S.L c a (b - 1) = D at *
          by_cases hp : 0 < debOf S.L (b : Int) (a : Int) (c : Int)
          · have hl : isLine S.L (b : Int) (a : Int) (c : Int) = true := by
              cases h : isLine S.L (b : Int) (a : Int) (c : Int) with
              | true => rfl
              | false => have := (Lgr.Good.noLine h).2.2; omega
            have HD1 := Lib.hid (show dbt1 S.L c a b = [⟨a, b, debOf S.L b a c⟩] by unfold dbt1; rw [if_pos hp])
            rw [hl] at LL
            generalize debOf S.L (b : Int) (a : Int) (c : Int) = x at *
            have d1 : decide (x > 0) = true := decide_eq_true (by omega)
            have d2 : decide (0 < x) = true := decide_eq_true (by omega)
            clear hl hp
            go_wp2_with (first
              | go_skip
              | ((refine LL.mono ?_); clear LL H; rintro _ _ ⟨rfl, H⟩)
              | ((with_reducible show wpList _ _ _ (_ :: _) _ _); (with_reducible apply wpl_allocRH row_line); (· rfl); (· exact H); (clear H; intro pl _ H); (simp only [Act.put, List.setIfInBounds_toArray, List.set_cons_zero, List.set_cons_succ]))
              | ((with_reducible show wpList _ _ _ (_ :: _) _ _); (with_reducible apply wpl_storeRH row_line); (· rfl); (· rfl); (· rfl); (· with_reducible exact line_cells ..); (· exact H); (· (repeat (first | (with_reducible exact List.mem_cons_self) | with_reducible apply List.mem_cons_of_mem))); (· (simp only [line_sz, Nat.reduceAdd, Nat.reduceLeDiff, Nat.le_refl]; done)); (· with_reducible exact line_splice ..); (· (repeat (first | (with_reducible exact Repl.here) | with_reducible apply Repl.there))); (clear H; intro _ H); (simp only [Act.put, List.setIfInBounds_toArray, List.set_cons_zero, List.set_cons_succ]))
              | ((with_reducible show wpList _ _ _ (_ :: _) _ _); (with_reducible apply wpl_loadCH); (· exact cell_i64); (· rfl); (· rfl); (· exact H); (· (repeat (first | (with_reducible exact List.mem_cons_self) | with_reducible apply List.mem_cons_of_mem))); (· exact line_g4 ..); (simp only [Act.put, List.setIfInBounds_toArray, List.set_cons_zero, List.set_cons_succ]))
              | ((with_reducible show wpList _ _ _ (_ :: _) _ _); (with_reducible apply wpl_bsRH); (· rfl); (· rfl); (· exact bs_flow); (· exact rfl); (· exact H); (clear H; intro pf _ H); (simp only [Act.put, List.setIfInBounds_toArray, List.set_cons_zero, List.set_cons_succ]))
              | ((with_reducible show wpList _ _ _ (_ :: _) _ _); (with_reducible apply wpl_appendH slF); (· rfl); (· rfl); (· rfl); (· rfl); (· exact H.pull (.there (.there .here))); (· exact H.celRd List.mem_cons_self); (· rfl); (· exact flowC_one _ _ _); (· exact hn1); (· exact hn2); (clear H; intro v2 _ H); (simp only [Act.put, List.setIfInBounds_toArray, List.set_cons_zero, List.set_cons_succ])))
            refine ⟨⟨b + 1, by go_num, by omega, by omega, ?_⟩, ?measure2⟩
            case measure2 => simp [intOf]; omega
            rw [HB.out, HD1.out, flwL_app, List.length_append]
            exact (H.drop (.there .here)).drop (.there .here)
          · have HD1 := Lib.hid (show dbt1 S.L c a b = [] by unfold dbt1; rw [if_neg hp])
            cases hl : isLine S.L (b : Int) (a : Int) (c : Int) with
            | true =>
              rw [hl] at LL
              generalize debOf S.L (b : Int) (a : Int) (c : Int) = x at *
              have d1 : decide (x > 0) = false := decide_eq_false (by omega)
              have d2 : decide (0 < x) = false := decide_eq_false (by omega)
              clear hl hp
              go_wp2_with (first
                | go_skip
                | ((refine LL.mono ?_); clear LL H; rintro _ _ ⟨rfl, H⟩)
                | ((with_reducible show wpList _ _ _ (_ :: _) _ _); (with_reducible apply wpl_allocRH row_line); (· rfl); (· exact H); (clear H; intro pl _ H); (simp only [Act.put, List.setIfInBounds_toArray, List.set_cons_zero, List.set_cons_succ]))
                | ((with_reducible show wpList _ _ _ (_ :: _) _ _); (with_reducible apply wpl_storeRH row_line); (· rfl); (· rfl); (· rfl); (· with_reducible exact line_cells ..); (· exact H); (· (repeat (first | (with_reducible exact List.mem_cons_self) | with_reducible apply List.mem_cons_of_mem))); (· (simp only [line_sz, Nat.reduceAdd, Nat.reduceLeDiff, Nat.le_refl]; done)); (· with_reducible exact line_splice ..); (· (repeat (first | (with_reducible exact Repl.here) | with_reducible apply Repl.there))); (clear H; intro _ H); (simp only [Act.put, List.setIfInBounds_toArray, List.set_cons_zero, List.set_cons_succ]))
                | ((with_reducible show wpList _ _ _ (_ :: _) _ _); (with_reducible apply wpl_loadCH); (· exact cell_i64); (· rfl); (· rfl); (· exact H); (· (repeat (first | (with_reducible exact List.mem_cons_self) | with_reducible apply List.mem_cons_of_mem))); (· exact line_g4 ..); (simp only [Act.put, List.setIfInBounds_toArray, List.set_cons_zero, List.set_cons_succ])))
              refine ⟨⟨b + 1, by go_num, by omega, by omega, ?_⟩, ?measure3⟩
              case measure3 => simp [intOf]; omega
              rw [HB.out, HD1.out, List.append_nil]
              exact H.tail
            | false =>
              rw [hl] at LL
              clear hl hp
              generalize debOf S.L (b : Int) (a : Int) (c : Int) = x at *
              go_wp2_with (first
                | go_skip
                | ((refine LL.mono ?_); clear LL H; rintro _ _ ⟨rfl, H⟩)
                | ((with_reducible show wpList _ _ _ (_ :: _) _ _); (with_reducible apply wpl_allocRH row_line); (· rfl); (· exact H); (clear H; intro pl _ H); (simp only [Act.put, List.setIfInBounds_toArray, List.set_cons_zero, List.set_cons_succ]))
                | ((with_reducible show wpList _ _ _ (_ :: _) _ _); (with_reducible apply wpl_storeRH row_line); (· rfl); (· rfl); (· rfl); (· with_reducible exact line_cells ..); (· exact H); (· (repeat (first | (with_reducible exact List.mem_cons_self) | with_reducible apply List.mem_cons_of_mem))); (· (simp only [line_sz, Nat.reduceAdd, Nat.reduceLeDiff, Nat.le_refl]; done)); (· with_reducible exact line_splice ..); (· (repeat (first | (with_reducible exact Repl.here) | with_reducible apply Repl.there))); (clear H; intro _ H); (simp only [Act.put, List.setIfInBounds_toArray, List.set_cons_zero, List.set_cons_succ]))
                | ((with_reducible show wpList _ _ _ (_ :: _) _ _); (with_reducible apply wpl_loadCH); (· exact cell_i64); (· rfl); (· rfl); (· exact H); (· (repeat (first | (with_reducible exact List.mem_cons_self) | with_reducible apply List.mem_cons_of_mem))); (· exact line_g4 ..); (simp only [Act.put, List.setIfInBounds_toArray, List.set_cons_zero, List.set_cons_succ])))
              refine ⟨⟨b + 1, by go_num, by omega, by omega, ?_⟩, ?measure4⟩
              case measure4 => simp [intOf]; omega
              rw [HB.out, HD1.out, List.append_nil]
              exact H.tail
        · obtain rfl : b = 17 := by omega
          have g2 : decide (((17 : Nat) : Int) ≤ 16) = false := by decide
          have HN := Lib.hid (dbtA_next S.L c ha1)
          go_wp2_with (go_skip)
          refine ⟨⟨a + 1, by go_num, by omega, by omega, ?_⟩, ?measure5⟩
          case measure5 => simp [intOf]; omega
          rw [HN.out]
          exact H
    · obtain rfl : a = 17 := by omega
      have g1 : decide (((17 : Nat) : Int) ≤ 16) = false := by decide
      go_wp2_with (go_skip)
      go_ret
      refine ⟨_, rfl, ?_⟩
      have e : dbtS S.L c = dbtA S.L c (17 - 1) := by unfold dbtS; rfl
      rw [e]
      exact H
theorem rnet13_H (c : Nat) (quota : Int) (hc : c ≤ 255) (hq : -9223372036854775808 ≤ quota ∧ quota ≤ 9223372036854775807) (G : S.Good) (H : RefH W l p S w) :
    Calls Tryz.prog 13 #[.pointer (some ⟨p, 0, none⟩), .int .u8 (c : Int), .int .i64 quota] w fun e w' => ∃ n k er S', e = .returned (.tuple #[.int .i64 n, .int .i64 k, .int .i64 er]) ∧ NetOut S c quota n k er S' ∧ RefH W l p S' w' := by
  obtain ⟨a, np, cp, b, m, d, e1, e2, M, H⟩ := H.open3
  have HS := Lib.hid (And.intro e1 e2)
  have HG := Lib.hid G
  clear e1 e2 G
  go_enter Tryz.func13, Tryz.ntmps13
  by_cases hbad : c < 1 ∨ 8 < c
  · by_cases h1 : c < 1
    · have d1 : decide ((c : Int) < 1) = true := decide_eq_true (by omega)
      go_wp2_with (go_skip)
      go_ret3
      exact ⟨0, 0, 1, S, rfl, .inl ⟨hbad, rfl, rfl, rfl, rfl⟩, RefH.shut HS.out.1 HS.out.2 H⟩
    · have d1 : decide ((c : Int) < 1) = false := decide_eq_false (by omega)
      have d2 : decide ((c : Int) > 8) = true := decide_eq_true (by omega)
      have d3 : decide (8 < (c : Int)) = true := decide_eq_true (by omega)
      go_wp2_with (go_skip)
      go_ret3
      exact ⟨0, 0, 1, S, rfl, .inl ⟨hbad, rfl, rfl, rfl, rfl⟩, RefH.shut HS.out.1 HS.out.2 H⟩
  · have d1 : decide ((c : Int) < 1) = false := decide_eq_false (by omega)
    have d2 : decide ((c : Int) > 8) = false := decide_eq_false (by omega)
    have d3 : decide (8 < (c : Int)) = false := decide_eq_false (by omega)
    have hfine : 1 ≤ c ∧ c ≤ 8 := by omega
    clear hbad
    have TT := rtot_H (W := W) c HG.out M
    have HM := Lib.hid M
    clear M
    go_wp2_with (first | go_skip | ((with_reducible refine AnsH.call (by assumption) H ?_); clear H; intro _ H))
    clear TT
    refine (rdebts13_H c hc HG.out HM.out H).mono ?_
    clear H
    rintro e w2 ⟨vD, rfl, H⟩
    have hdf := HG.out.dbt_few c
    have hMD := HG.out.dbt c
    have hbnd := hMD.bnd
    have OK : ∀ x ∈ dbtS S.L c, FlwOk x := fun x hx => by have := hbnd x hx; exact ⟨by omega, by omega, by omega, by omega⟩
    obtain ⟨aD, cD, rfl, hD1, hD2⟩ := RowT.form0 (H.ok _ List.mem_cons_self)
    go_wp2_with (go_skip)
    refine (rleast8_H aD (dbtS S.L c).length cD (dbtS S.L c) quota rfl (by omega) OK hq.2 (fun l' w' hh H' => H'.rowRd (hh _ List.mem_cons_self)) H).mono ?_
    clear H OK
    rintro e w3 ⟨vL, Q, k0, er, rfl, ho, H⟩
    by_cases he : er = 0
    · subst he
      have hle : ∀ f t, 0 ≤ ofF Q f t ∧ ofF Q f t ≤ 1099511627776 := by
        rcases id ho with ⟨_, _, _, h⟩ | ⟨_, _, j, N, ht, _, ⟨_, rfl, _, _⟩ | ⟨_, _, _, _, h⟩⟩
        · omega
        · intro f t
          have I := (ht.inv hMD).1
          have hML := leftL_may hMD I
          by_cases hex : ∃ y ∈ leftL (dbtS S.L c) N, y.f = f ∧ y.t = t
          · obtain ⟨y, hy, rfl, rfl⟩ := hex
            obtain ⟨i, hi, rfl⟩ := List.mem_iff_getElem.1 hy
            rw [ofF_uniq hML (List.getElem?_eq_getElem hi)]
            have := hML.bnd _ hy
            omega
          · rw [ofF_no fun y hy h => hex ⟨y, hy, h⟩]
            omega
        · omega
      have hlq : Q.length ≤ 64 ∧ (∀ y ∈ Q, 0 ≤ y.n ∧ y.n ≤ 1099511627776) ∧ Q.Pairwise (fun y x => cfF y x < 0) := by
        rcases id ho with ⟨_, _, _, h⟩ | ⟨_, _, j, N, ht, _, ⟨_, rfl, _, _⟩ | ⟨_, _, _, _, h⟩⟩
        · omega
        · have := leftL_len (dbtS S.L c) N
          have I := (ht.inv hMD).1
          have hML := (leftL_may hMD I).bnd
          exact ⟨by omega, fun y hy => ⟨(hML y hy).2.2.1, (hML y hy).2.2.2⟩, leftL_pw (MayD.iff.1 hMD).2⟩
        · omega
      obtain ⟨aL, cL, rfl, hL1, hL2⟩ := OwnT.form0 (H.ok _ List.mem_cons_self)
      obtain ⟨hq64, hqb, hqp⟩ := hlq
      have HO := Lib.hid (NetOut.gone_of hfine ho)
      have HLE := Lib.hid hle
      have HB := Lib.hid hbnd
      have HQB := Lib.hid hqb
      have HQP := Lib.hid hqp
      clear ho hle hbnd hMD hqb hqp HM
      go_wp2_with (go_skip)
      have H0 : RefH W (OwnT 53 3 (.slice aL Q.length cL) Q.length (flwL Q) :: RowT 53 3 (.slice aD (dbtS S.L c).length cD) (dbtS S.L c).length (flwL (dbtS S.L c)) :: l) p (forgL S c Q ((dbtS S.L c).take 0)) w3 := RefH.shut HS.out.1 HS.out.2 (H.top3 (.there (.there .here)) (.there (.there .here)) (.there (.there .here)))
      clear H HS
      go_loopw [14] (fun i wr => RNetR W (OwnT 53 3 (.slice aL Q.length cL) Q.length (flwL Q) :: RowT 53 3 (.slice aD (dbtS S.L c).length cD) (dbtS S.L c).length (flwL (dbtS S.L c)) :: l) p c S Q i wr) (fun i _ => (dbtS S.L c).length - (intOf i).toNat)
      case atStart => exact ⟨0, Nat.zero_le _, rfl, H0⟩
      case round =>
        obtain ⟨k, hk, rfl, H⟩ := hrel.out
        clear H0 hrel
        obtain ⟨a3, n3, c3, b3, m3, d3, e1, e2, M3, H⟩ := H.open3
        have HS := Lib.hid (And.intro e1 e2)
        have Gk := forgL_good HG.out c Q ((dbtS S.L c).take k)
        clear e1 e2
        by_cases hlt : k < (dbtS S.L c).length
        · have hx : (dbtS S.L c)[k]? = some (dbtS S.L c)[k] := List.getElem?_eq_getElem hlt
          have HT := Lib.hid (forgL_take S c Q hx)
          have hbx := HB.out _ (List.mem_of_getElem? hx)
          have hlx := HLE.out (dbtS S.L c)[k].f (dbtS S.L c)[k].t
          obtain ⟨ba, oa, rfl, _⟩ := (H.rowRd (by (repeat (first | (with_reducible exact List.mem_cons_self) | with_reducible apply List.mem_cons_of_mem)) : RowT 53 3 (.slice aD (dbtS S.L c).length cD) (dbtS S.L c).length (flwL (dbtS S.L c)) ∈ _)).lt (by rw [flwL_len]; omega)
          have HC := Lib.hid (fun (l0 : List Thing) (m : RowT 53 3 (.slice (some ⟨ba, oa, none⟩) (dbtS S.L c).length cD) (dbtS S.L c).length (flwL (dbtS S.L c)) ∈ l0) (w' : World) (h : Heap W l0 w') => rd_flow (h.rowRd m) hx)
          clear hx
          generalize (dbtS S.L c)[k] = x at *
          have HSQ := Lib.hid (sumM_of x.f x.t Q HQP.out)
          have HGK := Lib.hid Gk
          generalize forgL S c Q ((dbtS S.L c).take k) = Sk at *
          generalize hrx : ofF Q x.f x.t = rx at *
          obtain ⟨xf, xt, xn⟩ := x
          simp only [Nat.add_zero] at HC HSQ HT hbx hlx
          have hc2 := (HC.out _ (by (repeat (first | (with_reducible exact List.mem_cons_self) | with_reducible apply List.mem_cons_of_mem))) _ H).2.2
          clear Gk hrx
          go_wp2_with (first | go_skip | ((with_reducible show wpList _ _ _ (_ :: _) _ _); (with_reducible apply wpl_loadCell cell_i64); (· rfl); (· rfl); (· exact hc2); (simp only [Act.put, List.setIfInBounds_toArray, List.set_cons_zero, List.set_cons_succ])))
          clear hc2
          have H1 := H
          clear H
          go_loopw [15, 16] (fun v i wr => RNetI W (RefC p (.slice a3 n3 c3) (.slice b3 m3 d3) :: RowT 30 1 (.slice a3 n3 c3) n3 (pI Sk.P) :: RowT 65 5 (.slice b3 m3 d3) m3 (linL Sk.L) :: OwnT 53 3 (.slice aL Q.length cL) Q.length (flwL Q) :: RowT 53 3 (.slice (some ⟨ba, oa, none⟩) (dbtS S.L c).length cD) (dbtS S.L c).length (flwL (dbtS S.L c)) :: l) Q ⟨xf, xt, xn⟩ v i wr) (fun _ i _ => Q.length - (intOf i).toNat)
          case atStart => exact ⟨0, Nat.zero_le _, rfl, by simp [sumM], H1⟩
          case round =>
            obtain ⟨j, hj, rfl, rfl, H⟩ := hrel.out
            clear H1 hrel
            by_cases hjl : j < Q.length
            · have hy : Q[j]? = some Q[j] := List.getElem?_eq_getElem hjl
              have HST := Lib.hid (sumM_take xf xt hy)
              have hyb := HQB.out _ (List.mem_of_getElem? hy)
              have hsb := sumM_bnd xf xt (Q.take j) fun z hz => HQB.out z (List.mem_of_mem_take hz)
              rw [List.length_take] at hsb
              obtain ⟨qb, qo, rfl, _⟩ := (H.ownRd (by (repeat (first | (with_reducible exact List.mem_cons_self) | with_reducible apply List.mem_cons_of_mem)) : OwnT 53 3 (.slice aL Q.length cL) Q.length (flwL Q) ∈ _)).lt (by rw [flwL_len]; omega)
              have HY := Lib.hid (fun (l0 : List Thing) (m : OwnT 53 3 (.slice (some ⟨qb, qo, none⟩) Q.length cL) Q.length (flwL Q) ∈ l0) (w' : World) (h : Heap W l0 w') => rd_flow (h.ownRd m) hy)
              clear hy
              generalize Q[j] = y at *
              obtain ⟨yf, yt, yn⟩ := y
              simp only [Nat.add_zero] at HY HST hyb
              generalize sumM (Q.take j) xf xt = sj at *
              have hsb2 : 0 ≤ sj ∧ sj ≤ 70368744177664 := by omega
              clear hsb
              by_cases u1 : yf = xf
              · have v1 : ((yf : Int) == (xf : Int)) = true := by simp; omega
                by_cases u2 : yt = xt
                · have v2 : ((yt : Int) == (xt : Int)) = true := by simp; omega
                  have HR := Lib.hid (show sumM (Q.take (j + 1)) xf xt = sj + yn by rw [HST.out, if_pos (endsB_iff.2 ⟨u1, u2⟩)])
                  clear u1 u2 HST
                  go_wp2_with (go_skip)
                  refine wp_region_H H (by kernel_rfl) (by kernel_rfl) ?_
                  repeat (first | go_big_quiet_skip | ((with_reducible apply wpQ_loadAt); (· first | exact cell_party); (· rfl); (· rfl); (· first | exact fun w' h => (HY.out _ (by (repeat (first | (with_reducible exact List.mem_cons_self) | with_reducible apply List.mem_cons_of_mem))) w' h).1 | exact fun w' h => (HY.out _ (by (repeat (first | (with_reducible exact List.mem_cons_self) | with_reducible apply List.mem_cons_of_mem))) w' h).2.1 | exact fun w' h => (HC.out _ (by (repeat (first | (with_reducible exact List.mem_cons_self) | with_reducible apply List.mem_cons_of_mem))) w' h).1 | exact fun w' h => (HC.out _ (by (repeat (first | (with_reducible exact List.mem_cons_self) | with_reducible apply List.mem_cons_of_mem))) w' h).2.1); (simp only [Act.put, List.setIfInBounds_toArray, List.set_cons_zero, List.set_cons_succ])) | go_big_quiet_step (fail))
                  refine wpQuiet_nil ?_
                  clear H
                  intro _ H
                  have hcy := (HY.out _ (by (repeat (first | (with_reducible exact List.mem_cons_self) | with_reducible apply List.mem_cons_of_mem))) _ H).2.2
                  go_wp2_with (first | go_skip | ((with_reducible show wpList _ _ _ (_ :: _) _ _); (with_reducible apply wpl_loadCell cell_i64); (· rfl); (· rfl); (· exact hcy); (simp only [Act.put, List.setIfInBounds_toArray, List.set_cons_zero, List.set_cons_succ])))
                  refine ⟨⟨j + 1, by omega, by go_num, ?_, H⟩, ?measure6⟩
                  case measure6 => simp [intOf]; omega
                  rw [HR.out]
                  dsimp only
                  congr 1
                  omega
                · have v2 : ((yt : Int) == (xt : Int)) = false := by simp; omega
                  have HR := Lib.hid (show sumM (Q.take (j + 1)) xf xt = sj by rw [HST.out, if_neg (fun h => u2 (endsB_iff.1 h).2)]; omega)
                  clear u1 u2 HST
                  go_wp2_with (go_skip)
                  refine wp_region_H H (by kernel_rfl) (by kernel_rfl) ?_
                  repeat (first | go_big_quiet_skip | ((with_reducible apply wpQ_loadAt); (· first | exact cell_party); (· rfl); (· rfl); (· first | exact fun w' h => (HY.out _ (by (repeat (first | (with_reducible exact List.mem_cons_self) | with_reducible apply List.mem_cons_of_mem))) w' h).1 | exact fun w' h => (HY.out _ (by (repeat (first | (with_reducible exact List.mem_cons_self) | with_reducible apply List.mem_cons_of_mem))) w' h).2.1 | exact fun w' h => (HC.out _ (by (repeat (first | (with_reducible exact List.mem_cons_self) | with_reducible apply List.mem_cons_of_mem))) w' h).1 | exact fun w' h => (HC.out _ (by (repeat (first | (with_reducible exact List.mem_cons_self) | with_reducible apply List.mem_cons_of_mem))) w' h).2.1); (simp only [Act.put, List.setIfInBounds_toArray, List.set_cons_zero, List.set_cons_succ])) | go_big_quiet_step (fail))
                  refine wpQuiet_nil ?_
                  clear H
                  intro _ H
                  go_wp2_with (go_skip)
                  refine ⟨⟨j + 1, by omega, by go_num, by rw [HR.out], H⟩, ?measure7⟩
                  case measure7 => simp [intOf]; omega
              · have v1 : ((yf : Int) == (xf : Int)) = false := by simp; omega
                have HR := Lib.hid (show sumM (Q.take (j + 1)) xf xt = sj by rw [HST.out, if_neg (fun h => u1 (endsB_iff.1 h).1)]; omega)
                clear u1 HST
                go_wp2_with (go_skip)
                refine wp_region_H H (by kernel_rfl) (by kernel_rfl) ?_
                repeat (first | go_big_quiet_skip | ((with_reducible apply wpQ_loadAt); (· first | exact cell_party); (· rfl); (· rfl); (· first | exact fun w' h => (HY.out _ (by (repeat (first | (with_reducible exact List.mem_cons_self) | with_reducible apply List.mem_cons_of_mem))) w' h).1 | exact fun w' h => (HY.out _ (by (repeat (first | (with_reducible exact List.mem_cons_self) | with_reducible apply List.mem_cons_of_mem))) w' h).2.1 | exact fun w' h => (HC.out _ (by (repeat (first | (with_reducible exact List.mem_cons_self) | with_reducible apply List.mem_cons_of_mem))) w' h).1 | exact fun w' h => (HC.out _ (by (repeat (first | (with_reducible exact List.mem_cons_self) | with_reducible apply List.mem_cons_of_mem))) w' h).2.1); (simp only [Act.put, List.setIfInBounds_toArray, List.set_cons_zero, List.set_cons_succ])) | go_big_quiet_step (fail))
                refine wpQuiet_nil ?_
                clear H
                intro _ H
                go_wp2_with (go_skip)
                refine ⟨⟨j + 1, by omega, by go_num, by rw [HR.out], H⟩, ?measure8⟩
                case measure8 => simp [intOf]; omega
            · obtain rfl : j = Q.length := by omega
              have HTK := Lib.hid (show xn - sumM (Q.take Q.length) xf xt = xn - rx by rw [List.take_length, HSQ.out])
              rw [HTK.out]
              have hxf : xf ≤ 255 := by omega
              have hxt : xt ≤ 255 := by omega
              have HZ := Lib.hid (show -9223372036854775808 ≤ xn - rx ∧ xn - rx ≤ 9223372036854775807 by omega)
              go_wp2_with (go_skip)
              refine wp_region_K [13] [0, 1, 2, 3, 4, 5, 6, 7, 8, 9, 10, 11, 12, 13] [RowT 53 3 (.slice (some ⟨ba, oa, none⟩) (dbtS S.L c).length cD) (dbtS S.L c).length (flwL (dbtS S.L c))] H (fun t ht => by rw [List.mem_singleton.1 ht]; (repeat (first | (with_reducible exact List.mem_cons_self) | with_reducible apply List.mem_cons_of_mem))) (by kernel_rfl) (by kernel_rfl) ?_
              iterate 13 (apply wpK_step; (· rfl); (· rfl); (· rfl); (· exact Nat.le_of_ble_eq_true rfl); (· intro l0 hs0 w0 H0; (first | go_big_quiet_skip | ((with_reducible apply wpQ_loadAt); (· exact cell_party); (· rfl); (· rfl); (· first | exact fun w' h => (HC.out _ (hs0 _ (by (repeat (first | (with_reducible exact List.mem_cons_self) | with_reducible apply List.mem_cons_of_mem)))) w' h).1 | exact fun w' h => (HC.out _ (hs0 _ (by (repeat (first | (with_reducible exact List.mem_cons_self) | with_reducible apply List.mem_cons_of_mem)))) w' h).2.1); (simp only [Act.put, List.setIfInBounds_toArray, List.set_cons_zero, List.set_cons_succ])) | go_big_quiet_step (fail)); (refine wpQuiet_nil ?_); (simp only [Array.getD_eq_getD_getElem?, List.getElem?_toArray, List.getElem?_cons_succ, List.getElem?_cons_zero, Option.getD_some]; rfl)); (simp only [Act.put, List.setIfInBounds_toArray, List.set_cons_zero, List.set_cons_succ]))
              refine wpK_call (f := 24) (argl := [.pointer (some ⟨p, 0, none⟩), .int .u8 (xt : Int), .int .u8 (xf : Int), .int .u8 (c : Int), .int .i64 (xn - rx)]) rfl rfl rfl Tryz.call24 rfl ?_
              intro w0 H0
              refine (rforg_H (p := p) (S := Sk) xt xf c (xn - rx) hxt hxf hc HZ.out HGK.out (RefH.shut HS.out.1 HS.out.2 H0)).mono ?_
              clear H0
              rintro e w5 ⟨rfl, H1⟩
              obtain ⟨a4, n4, c4, b4, m4, d4, e3, e4, _, H1⟩ := H1.open3
              have HS2 := Lib.hid (And.intro e3 e4)
              clear e3 e4
              refine ⟨_, _, rfl, H1, _, Keeps.refl _, (fun t ht => by rw [List.mem_singleton.1 ht]; (repeat (first | (with_reducible exact List.mem_cons_self) | with_reducible apply List.mem_cons_of_mem))), ?_⟩
              clear H1
              (simp only [Act.put, List.setIfInBounds_toArray, List.set_cons_zero, List.set_cons_succ])
              (refine wpK_nil ?_; clear H; intro _ H)
              go_wp2_with (go_skip)
              refine ⟨⟨k + 1, by omega, by go_num, ?_⟩, ?measure9⟩
              case measure9 => simp [intOf]; omega
              rw [HT.out]
              exact RefH.shut HS2.out.1 HS2.out.2 H
        · obtain rfl : k = (dbtS S.L c).length := by omega
          have HTL := Lib.hid (List.take_length (l := dbtS S.L c))
          have TT := rtot_H (W := W) c Gk M3
          rw [HTL.out] at TT H HS
          have ht0 := HG.out.totB c
          have ht1 := (forgL_good HG.out c Q (dbtS S.L c)).totB c
          clear M3
          go_wp2_with (first | go_skip | ((with_reducible refine AnsH.call (by assumption) H ?_); clear H; intro _ H))
          go_ret3
          exact ⟨_, k0, 0, _, rfl, HO.out, RefH.drop1 (RefH.drop1 (RefH.shut HS.out.1 HS.out.2 H))⟩
    · have HO := Lib.hid (show NetOut S c quota 0 0 er S from .inr ⟨hfine, Q, k0, ho, .inl ⟨he, rfl, rfl, rfl⟩⟩)
      have e1 : (er != 0) = true := by simpa using he
      clear ho hbnd hMD he
      go_wp2_with (go_skip)
      go_ret3
      exact ⟨0, 0, er, S, rfl, HO.out, RefH.shut HS.out.1 HS.out.2 H.tail.tail⟩
end
end Go.Proofs.YtgobnamhdkbbeaaGreat

/- Pages of rows: what is written where. -/
namespace Go.Proofs.YtgobnamhdkbbeaaGreat
open Go.RowKit
def bkPut (xs : List Value) (k K : Nat) (m : Array Value) : List Value := xs.take (k * K) ++ m.toList ++ xs.drop (k * K + K)
theorem bkPut_len {xs : List Value} {k K : Nat} {m : Array Value} (hm : m.size = K) (h : k * K + K ≤ xs.length) : (bkPut xs k K m).length = xs.length := by
  unfold bkPut
  simp [hm]
  omega
theorem bkPut_at {xs : List Value} {k K : Nat} {m : Array Value} (hm : m.size = K) (h : k * K + K ≤ xs.length) : ((bkPut xs k K m).drop (k * K)).take K = m.toList := by
  unfold bkPut
  have h1 : (xs.take (k * K)).length = k * K := by simp; omega
  rw [List.append_assoc]
  conv => lhs; rw [← h1]
  rw [h1, List.drop_append_of_le_length (by omega), List.drop_of_length_le (by omega), List.nil_append]
  have h2 : m.toList.length = K := by simpa using hm
  rw [← h2, List.take_left]
theorem bkPut_off {xs : List Value} {k K i : Nat} {m : Array Value} (hm : m.size = K) (h : k * K + K ≤ xs.length) (hi : i ≠ k) : ((bkPut xs k K m).drop (i * K)).take K = (xs.drop (i * K)).take K := by
  unfold bkPut
  have h1 : (xs.take (k * K)).length = k * K := by simp; omega
  have h2 : m.toList.length = K := by simpa using hm
  apply List.ext_getElem?
  intro j
  rw [List.getElem?_take, List.getElem?_take]
  by_cases hj : j < K
  · rw [if_pos hj, if_pos hj, List.getElem?_drop, List.getElem?_drop]
    rcases Nat.lt_or_gt_of_ne hi with hlt | hgt
    · have h3 : i * K + K ≤ k * K := by
        have := Nat.mul_le_mul_right K (show i + 1 ≤ k from hlt)
        rw [Nat.succ_mul] at this
        exact this
      rw [List.append_assoc, List.getElem?_append_left (by omega), List.getElem?_take, if_pos (by omega)]
    · have h3 : k * K + K ≤ i * K := by
        have := Nat.mul_le_mul_right K (show k + 1 ≤ i from hgt)
        rw [Nat.succ_mul] at this
        exact this
      rw [List.append_assoc, List.getElem?_append_right (by omega), List.getElem?_append_right (by omega), List.getElem?_drop]
      congr 1
      omega
  · rw [if_neg hj, if_neg hj]
def MarksR (K : Nat) (m : Array Value) (lo hi : Nat) (xs : List Value) : Prop := ∀ i, lo ≤ i → i < hi → (xs.drop (i * K)).take K = m.toList
theorem MarksR.step {K : Nat} {m : Array Value} {lo k : Nat} {xs : List Value} (h : MarksR K m lo k xs) (hm : m.size = K) (hk : k * K + K ≤ xs.length) : MarksR K m lo (k + 1) (bkPut xs k K m) := by
  intro i h1 h2
  by_cases e : i = k
  · subst e; exact bkPut_at hm hk
  · rw [bkPut_off hm hk e]; exact h i h1 (by omega)
theorem MarksR.off {K : Nat} {m m2 : Array Value} {lo hi k : Nat} {xs : List Value} (h : MarksR K m lo hi xs) (hm : m2.size = K) (hk : k * K + K ≤ xs.length) (hh : hi ≤ k) : MarksR K m lo hi (bkPut xs k K m2) := by
  intro i h1 h2
  rw [bkPut_off hm hk (by omega)]
  exact h i h1 h2
def browR (sl : Value) (m b : Array Value) : Array Value := (sl :: (m.toList ++ b.toList)).toArray
theorem browR_g0 (sl : Value) (m b : Array Value) : (browR sl m b)[0]? = some sl := rfl
theorem browR_sz {sl : Value} {m b : Array Value} {K : Nat} (hm : m.size = K) (hb : b.size = K) : (browR sl m b).size = 1 + K + K := by
  unfold browR
  simp [hm, hb]
  omega
theorem browR_g1 {sl : Value} {m b : Array Value} {K : Nat} (hm : m.size = K) : (browR sl m b).extract 1 (1 + K) = m := by
  unfold browR
  apply Array.ext'
  have h2 : m.toList.length = K := by simpa using hm
  simp only [List.extract_toArray, List.extract_eq_take_drop, List.drop_succ_cons, List.drop_zero]
  rw [show 1 + K - 1 = m.toList.length by omega, List.take_left]
theorem browR_g2 {sl : Value} {m b : Array Value} {K : Nat} (hm : m.size = K) (hb : b.size = K) : (browR sl m b).extract (1 + K) (1 + K + K) = b := by
  unfold browR
  apply Array.ext'
  have h2 : m.toList.length = K := by simpa using hm
  have h3 : b.toList.length = K := by simpa using hb
  simp only [List.extract_toArray, List.extract_eq_take_drop]
  rw [show 1 + K = (sl :: m.toList).length by simp [hm]; omega, ← List.cons_append, List.drop_left, show (sl :: m.toList).length + K - (sl :: m.toList).length = b.toList.length by omega, List.take_length]
theorem mul_slot {k c K : Nat} (h : k < c) : k * K + K ≤ c * K := by
  have := Nat.mul_le_mul_right K (show k + 1 ≤ c from h)
  rw [Nat.succ_mul] at this
  exact this
structure GoodR (K : Nat) (T : TypeId) (m : Array Value) : Prop where
  cells : Cells K m
  neq : ∀ w, (binOp .neq T (.agg m) (.agg m)).run Tryz.prog w = .ok (.bool false) w
theorem GoodR.sz {K : Nat} {T : TypeId} {m : Array Value} (h : GoodR K T m) : m.size = K := h.cells.1
end Go.Proofs.YtgobnamhdkbbeaaGreat

/- countinghouselaw01's SameFlows. -/
namespace Go.Proofs.YtgobnamhdkbbeaaGreat
open Go.RowKit
set_option linter.unusedSimpArgs false
set_option linter.unusedVariables false
instance : DecidableEq Flw := fun x y => if h : x.f = y.f ∧ x.t = y.t ∧ x.n = y.n then .isTrue (by cases x; cases y; simp at h; obtain ⟨rfl, rfl, rfl⟩ := h; rfl) else .isFalse (fun e => by subst e; exact h ⟨rfl, rfl, rfl⟩)
def flowSame (a b n x y z : Int) : Bool := decide (a = x ∧ b = y ∧ n = z)
theorem eqF_run (d : Nat) (a b n x y z : Int) (w : World) : (Op.equalIn (d + 2) 53 (.agg (flow a b n)) (.agg (flow x y z))).run Tryz.prog w = .ok (flowSame a b n x y z) w := by
  unfold flow
  rw [run_equalIn_struct w (d + 1) 53 _ _ (by kernel_rfl) (by kernel_rfl)]
  have hu := Tryz.underlying30
  have hv := Tryz.underlying2
  by_cases h1 : a = x <;> by_cases h2 : b = y <;> by_cases h3 : n = z
  all_goals simp [flowSame, go_sem, Tryz.underlying53, hu, hv, h1, h2, h3]
theorem neqF_run (a b n x y z : Int) (w : World) : (binOp .neq 53 (.agg (flow a b n)) (.agg (flow x y z))).run Tryz.prog w = .ok (.bool (!flowSame a b n x y z)) w := by
  have h : (Op.equal 53 (.agg (flow a b n)) (.agg (flow x y z))).run Tryz.prog w = .ok (flowSame a b n x y z) w := eqF_run 9998 a b n x y z w
  simp only [binOp]
  simp [Sem.run_bind, h]
section
variable {W w : World} {l : List Thing} {ops : Array Oper} {rest : List Oper} {a : Act}
theorem wpQ_neqF {dst : Option Tmp} {ty : TypeId} {pos : String} {after : Array Edge} {guard : Option (Nat × Bool)} {p q : Operand} {a0 b0 n0 x y n : Int} {K : Act → Prop} {H : Heap W l w} (hw : Region.wanted ⟨dst, .binOp .neq 53 p q 53, ty, pos, after, guard⟩ (yielded ops a.tmps) = true) (hp : a.eval p = .agg (flow a0 b0 n0)) (hq : a.eval q = .agg (flow x y n))
    (h : wpQuiet Tryz.prog ops (fun w' => ∃ d, w' = H.any d) K rest (a.put dst (.bool (!flowSame a0 b0 n0 x y n)))) : wpQuiet Tryz.prog ops (fun w' => ∃ d, w' = H.any d) K (⟨dst, .binOp .neq 53 p q 53, ty, pos, after, guard⟩ :: rest) a := by
  have hg : (Tryz.prog.eqGuardType Tryz.prog.depth 53) = false := by kernel_rfl
  refine BigFrame.wpQuiet_want hw fun K hK => ⟨_, ?_, hK _ h⟩
  rintro _ ⟨d, rfl⟩
  unfold Oper.quietAt execOp
  simp only [hp, hq, Sem.run_bind, neqF_run]
  simp [eqGuard, hg, neqF_run]
  exact ⟨rfl, rfl⟩
end
structure SameFL (W : World) (l : List Thing) (A B : List Flw) (n : Nat) (vi : Value) (wr : World) : Prop where
  out : ∃ k : Nat, k ≤ n ∧ vi = .int .i64 (k : Int) ∧ A.take k = B.take k ∧ Heap W l wr
section
variable {W w : World} {l : List Thing}
set_option maxRecDepth 100000
set_option maxHeartbeats 2000000
theorem sameF_no {A B : List Flw} (a b : Option Addr) (n m c d : Nat) (hA : A.length = n) (hB : B.length = m) (hn : n ≤ 1000000) (hm : m ≤ 1000000) (hne : n ≠ m) : AnsH W l 32 #[.slice a n c, .slice b m d] (.bool false) := by
  intro w H
  have e1 : ((n : Int) != (m : Int)) = true := by simp; omega
  have e2 : ((n : Int) == (m : Int)) = false := by simp; omega
  go_enter Tryz.func32, Tryz.ntmps32
  go_wp2_with (go_skip)
  go_ret
  exact ⟨rfl, H⟩
theorem sameF_P {A B : List Flw} (a b : Option Addr) (n c d : Nat) (hA : A.length = n) (hB : B.length = n) (hn : n ≤ 1000000) (RA : ∀ w', Heap W l w' → Rd w' a (flwL A)) (RB : ∀ w', Heap W l w' → Rd w' b (flwL B)) :
    AnsH W l 32 #[.slice a n c, .slice b n d] (.bool (decide (A = B))) := by
  intro w H
  have HA := Lib.hid hA
  have HB := Lib.hid hB
  have HRA := Lib.hid RA
  have HRB := Lib.hid RB
  clear hA hB RA RB
  generalize hres : decide (A = B) = res
  have HRES := Lib.hid hres
  clear hres
  go_enter Tryz.func32, Tryz.ntmps32
  go_wp2_with (go_skip)
  have H0 := H
  clear H
  go_loopw [5] (fun vi wr => SameFL W l A B n vi wr) (fun vi _ => n - (intOf vi).toNat)
  case atStart => exact ⟨0, Nat.zero_le _, rfl, rfl, H0⟩
  case round =>
    obtain ⟨k, hk, rfl, ht, H'⟩ := hrel.out
    clear H0 hrel
    have H := H'
    clear H'
    by_cases hlt : k < n
    · have hkA : k < A.length := by rw [HA.out]; exact hlt
      have hkB : k < B.length := by rw [HB.out]; exact hlt
      have hx : A[k]? = some A[k] := List.getElem?_eq_getElem hkA
      have hy : B[k]? = some B[k] := List.getElem?_eq_getElem hkB
      have ra := flwL_at A k hkA
      have rb := flwL_at B k hkB
      have hlA : k * 3 + 3 ≤ (flwL A).length := by rw [flwL_len]; omega
      have hlB : k * 3 + 3 ≤ (flwL B).length := by rw [flwL_len]; omega
      have HT := Lib.hid ht
      clear ht
      generalize A[k] = x at *
      generalize B[k] = y at *
      obtain ⟨ba, oa, rfl, _⟩ := (HRA.out _ H).lt (by omega)
      obtain ⟨bb, ob, rfl, _⟩ := (HRB.out _ H).lt (by omega)
      obtain ⟨xa, xb, xn⟩ := x
      obtain ⟨ya, yb, yn⟩ := y
      have hrA : (((flwL A).drop (k * 3)).take 3).toArray = flow (xa : Int) (xb : Int) xn := by rw [ra]; rfl
      have hrB : (((flwL B).drop (k * 3)).take 3).toArray = flow (ya : Int) (yb : Int) yn := by rw [rb]; rfl
      clear ra rb
      cases he : flowSame (xa : Int) (xb : Int) xn (ya : Int) (yb : Int) yn
      · have HN := Lib.hid (show A ≠ B from fun e => by
          subst e
          rw [hx] at hy
          obtain ⟨rfl, rfl, rfl⟩ := by simpa using hy
          simp [flowSame] at he)
        clear hx hy
        go_wp2_with (go_skip)
        refine wp_region_H H (by kernel_rfl) (by kernel_rfl) ?_
        repeat (first | go_big_quiet_skip | (first | ((with_reducible apply wpQ_loadRdR row_flow); (· rfl); (· rfl); (· exact HRA.out); (· rfl); (· exact hlA); (· decide); (· exact hrA); (simp only [Act.put, List.setIfInBounds_toArray, List.set_cons_zero, List.set_cons_succ])) | ((with_reducible apply wpQ_loadRdR row_flow); (· rfl); (· rfl); (· exact HRB.out); (· rfl); (· exact hlB); (· decide); (· exact hrB); (simp only [Act.put, List.setIfInBounds_toArray, List.set_cons_zero, List.set_cons_succ])) | ((with_reducible apply wpQ_neqF); (· rfl); (· rfl); (· rfl); (rw [he]); (simp only [Act.put, List.setIfInBounds_toArray, List.set_cons_zero, List.set_cons_succ]))) | go_big_quiet_step (fail))
        refine wpQuiet_nil ?_
        clear H
        intro _ H
        go_wp2_with (go_skip)
        go_ret
        rw [← HRES.out, decide_eq_false HN.out]
        exact ⟨rfl, H⟩
      · have HS := Lib.hid (show A.take (k + 1) = B.take (k + 1) by
          rw [List.take_add_one, List.take_add_one, hx, hy, HT.out]
          have h2 := he
          simp [flowSame] at h2
          obtain ⟨h3, h4, h5⟩ := h2
          have h3' : xa = ya := by omega
          have h4' : xb = yb := by omega
          subst h3' h4' h5
          rfl)
        clear hx hy
        go_wp2_with (go_skip)
        refine wp_region_H H (by kernel_rfl) (by kernel_rfl) ?_
        repeat (first | go_big_quiet_skip | (first | ((with_reducible apply wpQ_loadRdR row_flow); (· rfl); (· rfl); (· exact HRA.out); (· rfl); (· exact hlA); (· decide); (· exact hrA); (simp only [Act.put, List.setIfInBounds_toArray, List.set_cons_zero, List.set_cons_succ])) | ((with_reducible apply wpQ_loadRdR row_flow); (· rfl); (· rfl); (· exact HRB.out); (· rfl); (· exact hlB); (· decide); (· exact hrB); (simp only [Act.put, List.setIfInBounds_toArray, List.set_cons_zero, List.set_cons_succ])) | ((with_reducible apply wpQ_neqF); (· rfl); (· rfl); (· rfl); (rw [he]); (simp only [Act.put, List.setIfInBounds_toArray, List.set_cons_zero, List.set_cons_succ]))) | go_big_quiet_step (fail))
        refine wpQuiet_nil ?_
        clear H
        intro _ H
        go_wp2_with (go_skip)
        refine ⟨⟨k + 1, by omega, by go_num, HS.out, H⟩, ?measure⟩
        case measure => simp [intOf]; omega
    · obtain rfl : k = n := by omega
      have HE := Lib.hid (show A = B by
        have h := ht
        rw [List.take_of_length_le (by rw [HA.out]; exact Nat.le_refl _), List.take_of_length_le (by rw [HB.out]; exact Nat.le_refl _)] at h
        exact h)
      clear ht
      go_wp2_with (go_skip)
      go_ret
      rw [← HRES.out, decide_eq_true HE.out]
      exact ⟨rfl, H⟩
theorem sameFlows_P {A B : List Flw} (a b : Option Addr) (n m c d : Nat) (hA : A.length = n) (hB : B.length = m) (hn : n ≤ 1000000) (hm : m ≤ 1000000) (RA : ∀ w', Heap W l w' → Rd w' a (flwL A)) (RB : ∀ w', Heap W l w' → Rd w' b (flwL B)) :
    AnsH W l 9 #[.slice a n c, .slice b m d] (.bool (decide (A = B))) := by
  intro w H
  have S : AnsH W l 32 #[.slice a n c, .slice b m d] (.bool (decide (A = B))) := by
    by_cases e : n = m
    · subst e
      exact sameF_P a b n c d hA hB hn RA RB
    · rw [decide_eq_false (fun h => e (by rw [← hA, ← hB, h]))]
      exact sameF_no a b n m c d hA hB hn hm e
  clear RA RB hA hB
  generalize decide (A = B) = res at *
  go_enter Tryz.func9, Tryz.ntmps9
  go_wp2_with (first | go_skip | ((with_reducible refine AnsH.call (by assumption) H ?_); clear H; intro _ H))
  go_ret
  exact ⟨rfl, H⟩
end
end Go.Proofs.YtgobnamhdkbbeaaGreat

/- The marks of a book's pages of flows. -/
namespace Go.Proofs.YtgobnamhdkbbeaaGreat
open Go.RowKit
abbrev mkN (n : Int) : Array Value := #[.int .u8 0, .int .u8 0, .int .i64 n]
abbrev mkM (n : Int) : Array Value := #[.int .u8 0, .int .u8 0, .int .i64 (-n)]
theorem mkN_good (n : Int) : GoodR 3 53 (mkN n) := ⟨⟨rfl, by simp [Value.oneCell']⟩, fun w => by
  have := neqF_run 0 0 n 0 0 n w
  rw [show flowSame 0 0 n 0 0 n = true by simp [flowSame]] at this
  exact this⟩
theorem mkM_good (n : Int) : GoodR 3 53 (mkM n) := mkN_good (-n)
end Go.Proofs.YtgobnamhdkbbeaaGreat

/- A book's pages of api.Flow: what write, writeBehind, stands and the book's method do. -/
namespace Go.Proofs.YtgobnamhdkbbeaaGreat
open Go.RowKit
set_option linter.unusedSimpArgs false
set_option linter.unusedVariables false
theorem cell_slFl : CellTy 36 := ⟨⟨_, Tryz.underlying36, rfl⟩, by kernel_rfl⟩
structure WLoopFl (W : World) (l : List Thing) (pb : Nat) (a : Option Addr) (n c lo hi : Nat) (m b v : Array Value) (P : Nat → List Value → Prop) (i : Value) (wr : World) : Prop where
  out : ∃ (k : Nat) (xs : List Value), i = .int .i64 (k : Int) ∧ lo ≤ k ∧ k ≤ hi ∧ P k xs ∧ Heap W (OwnT 53 3 (.slice a c c) c xs :: Cel pb (browR (.slice a n c) m b) 77 :: l) wr
section
variable {W w : World} {l : List Thing} {ops : Array Oper} {rest : List Oper} {a : Act}
theorem wpQ_neqFl {dst : Option Tmp} {ty : TypeId} {pos : String} {after : Array Edge} {guard : Option (Nat × Bool)} {p q : Operand} {m : Array Value} {K : Act → Prop} {H : Heap W l w} (hw : Region.wanted ⟨dst, .binOp .neq 53 p q 53, ty, pos, after, guard⟩ (yielded ops a.tmps) = true) (hp : a.eval p = .agg m) (hq : a.eval q = .agg m) (hr : ∀ w, (binOp .neq 53 (.agg m) (.agg m)).run Tryz.prog w = .ok (.bool false) w)
    (h : wpQuiet Tryz.prog ops (fun w' => ∃ d, w' = H.any d) K rest (a.put dst (.bool false))) : wpQuiet Tryz.prog ops (fun w' => ∃ d, w' = H.any d) K (⟨dst, .binOp .neq 53 p q 53, ty, pos, after, guard⟩ :: rest) a := by
  have hg : (Tryz.prog.eqGuardType Tryz.prog.depth 53) = false := by kernel_rfl
  refine BigFrame.wpQuiet_want hw fun K hK => ⟨_, ?_, hK _ h⟩
  rintro _ ⟨d, rfl⟩
  unfold Oper.quietAt execOp
  simp only [hp, hq, Sem.run_bind, hr]
  simp [eqGuard, hg, hr]
  exact ⟨rfl, rfl⟩
end
section
variable {W w : World} {l : List Thing}
set_option maxRecDepth 100000
set_option maxHeartbeats 4000000
theorem write_Fl (a : Option Addr) (n c : Nat) (m b : Array Value) (hm : GoodR 3 53 m) (hb : GoodR 3 53 b) (H : Heap W (FullT 53 3 a n c (fun _ => True) :: l) w) :
    Calls Tryz.prog 136 #[.agg (browR (.slice a n c) m b)] w fun e w' => e = .returned (.tuple #[]) ∧ Heap W (FullT 53 3 a n c (MarksR 3 m 0 n) :: l) w' := by
  obtain ⟨xs0, -, hn, hc, hl, ha, H'⟩ := H.openFull
  clear H
  have H := H'
  clear H'
  have hcm := hc
  unfold maxLen at hcm
  have HC := Lib.hid hc
  clear ha hc hl
  have hb1 : 1 + 3 ≤ (browR (.slice a n c) m b).size := by rw [browR_sz hm.sz hb.sz]; omega
  have hb2 : 1 + 3 + 3 ≤ (browR (.slice a n c) m b).size := by rw [browR_sz hm.sz hb.sz]; omega
  have he1 : (browR (.slice a n c) m b).extract 1 (1 + 3) = m := browR_g1 hm.sz
  have he2 : (browR (.slice a n c) m b).extract (1 + 3) (1 + 3 + 3) = b := browR_g2 hm.sz hb.sz
  go_enter Tryz.func136, Tryz.ntmps136
  go_wp2_with (first | go_skip | ((with_reducible show wpList _ _ _ (_ :: _) _ _); (with_reducible apply wpl_boxRH); (· rfl); (· rfl); (· exact H); (clear H; intro pb _ H); (simp only [Act.put, List.setIfInBounds_toArray, List.set_cons_zero, List.set_cons_succ])))
  have H0 := H.perm (.swap _ _ _)
  clear H
  go_loopw [2] (fun i wr => WLoopFl W l pb a n c 0 n m b m (fun k xs => xs.length = c * 3 ∧ MarksR 3 m 0 k xs) i wr) (fun i _ => n - (intOf i).toNat)
  case atStart => exact ⟨0, xs0, rfl, by omega, by omega, ⟨by have := OwnT.len (H0.ok _ List.mem_cons_self); omega, fun i h1 h2 => by omega⟩, H0⟩
  case round =>
    obtain ⟨k, xs, rfl, -, hk, ⟨hlen, hmk⟩, H'⟩ := hrel.out
    clear H0 hrel
    have H := H'
    clear H'
    by_cases hlt : k < n
    · obtain ⟨g, o, c', e, _, _⟩ := OwnT.form (H.ok _ List.mem_cons_self) (by omega)
      simp only [Value.slice.injEq, true_and] at e
      obtain ⟨rfl, rfl⟩ := e
      have hkl : k * 3 + 3 ≤ xs.length := by have := mul_slot (k := k) (c := c) (K := 3) (by omega); omega
      have HM := Lib.hid (And.intro (by rw [bkPut_len hm.sz hkl]; exact hlen : (bkPut xs k 3 m).length = c * 3) (hmk.step hm.sz hkl))
      clear hmk hlen
      go_wp2_with (first
        | go_skip
        | ((with_reducible show wpList _ _ _ (_ :: _) _ _); (with_reducible apply wpl_loadCH); (· exact cell_slFl); (· rfl); (· rfl); (· exact H); (· (repeat (first | (with_reducible exact List.mem_cons_self) | with_reducible apply List.mem_cons_of_mem))); (· exact browR_g0 ..); (simp only [Act.put, List.setIfInBounds_toArray, List.set_cons_zero, List.set_cons_succ]))
        | ((with_reducible show wpList _ _ _ (_ :: _) _ _); (with_reducible apply wpl_loadRH row_flow); (· rfl); (· rfl); (· exact H); (· (repeat (first | (with_reducible exact List.mem_cons_self) | with_reducible apply List.mem_cons_of_mem))); (· exact hb1); (· exact he1); (simp only [Act.put, List.setIfInBounds_toArray, List.set_cons_zero, List.set_cons_succ]))
        | ((with_reducible show wpList _ _ _ (_ :: _) _ _); (with_reducible apply wpl_storeOwnR row_flow); (· rfl); (· rfl); (· rfl); (· first | exact hm.cells | exact hb.cells); (· exact H); (· (repeat (first | (with_reducible exact List.mem_cons_self) | with_reducible apply List.mem_cons_of_mem))); (· rfl); (· exact hkl); (· rfl); (· (repeat (first | (with_reducible exact Repl.here) | with_reducible apply Repl.there))); (clear H; intro _ H); (simp only [Act.put, List.setIfInBounds_toArray, List.set_cons_zero, List.set_cons_succ])))
      refine ⟨?_, ?_⟩
      · exact ⟨⟨k + 1, _, by go_num, by omega, by omega, ⟨HM.out.1, HM.out.2⟩, H⟩⟩
      · simp [intOf]; omega
    · obtain rfl : n = k := by omega
      have HM := Lib.hid hmk
      clear hmk
      go_wp2_with (first
        | go_skip
        | ((with_reducible show wpList _ _ _ (_ :: _) _ _); (with_reducible apply wpl_loadCH); (· exact cell_slFl); (· rfl); (· rfl); (· exact H); (· (repeat (first | (with_reducible exact List.mem_cons_self) | with_reducible apply List.mem_cons_of_mem))); (· exact browR_g0 ..); (simp only [Act.put, List.setIfInBounds_toArray, List.set_cons_zero, List.set_cons_succ])))
      go_end0
      exact ⟨rfl, (H.drop (.there .here)).shutFull hn HC.out HM.out⟩
theorem behind_Fl (a : Option Addr) (n c : Nat) (m b : Array Value) (hm : GoodR 3 53 m) (hb : GoodR 3 53 b) (H : Heap W (FullT 53 3 a n c (MarksR 3 m 0 n) :: l) w) :
    Calls Tryz.prog 137 #[.agg (browR (.slice a n c) m b)] w fun e w' => e = .returned (.tuple #[]) ∧ Heap W (FullT 53 3 a n c (fun xs => MarksR 3 m 0 n xs ∧ MarksR 3 b n c xs) :: l) w' := by
  obtain ⟨xs0, hm0, hn, hc, hl, ha, H'⟩ := H.openFull
  clear H
  have H := H'
  clear H'
  have hsl := fun wx => run_cutTo slF a n c c .i64 (Nat.le_refl _) wx
  have hcm := hc
  unfold maxLen at hcm
  have HC := Lib.hid hc
  have HM0 := Lib.hid hm0
  clear ha hc hl hm0
  have hb1 : 1 + 3 ≤ (browR (.slice a n c) m b).size := by rw [browR_sz hm.sz hb.sz]; omega
  have hb2 : 1 + 3 + 3 ≤ (browR (.slice a n c) m b).size := by rw [browR_sz hm.sz hb.sz]; omega
  have he1 : (browR (.slice a n c) m b).extract 1 (1 + 3) = m := browR_g1 hm.sz
  have he2 : (browR (.slice a n c) m b).extract (1 + 3) (1 + 3 + 3) = b := browR_g2 hm.sz hb.sz
  go_enter Tryz.func137, Tryz.ntmps137
  go_wp2_with (first
    | go_skip
    | ((with_reducible show wpList _ _ _ (_ :: _) _ _); (with_reducible apply wpl_boxRH); (· rfl); (· rfl); (· exact H); (clear H; intro pb _ H); (simp only [Act.put, List.setIfInBounds_toArray, List.set_cons_zero, List.set_cons_succ]))
    | ((with_reducible show wpList _ _ _ (_ :: _) _ _); (with_reducible apply wpl_loadCH); (· exact cell_slFl); (· rfl); (· rfl); (· exact H); (· (repeat (first | (with_reducible exact List.mem_cons_self) | with_reducible apply List.mem_cons_of_mem))); (· exact browR_g0 ..); (simp only [Act.put, List.setIfInBounds_toArray, List.set_cons_zero, List.set_cons_succ])))
  clear hsl
  have H0 := H.perm (.swap _ _ _)
  clear H
  go_loopw [3] (fun i wr => WLoopFl W l pb a n c n c m b b (fun k xs => xs.length = c * 3 ∧ MarksR 3 m 0 n xs ∧ MarksR 3 b n k xs) i wr) (fun i _ => c - (intOf i).toNat)
  case atStart => exact ⟨n, xs0, rfl, by omega, hn, ⟨by have := OwnT.len (H0.ok _ List.mem_cons_self); omega, HM0.out, fun i h1 h2 => by omega⟩, H0⟩
  case round =>
    obtain ⟨k, xs, rfl, hnk, hk, ⟨hlen, hm1, hmk⟩, H'⟩ := hrel.out
    clear H0 hrel HM0
    have H := H'
    clear H'
    by_cases hlt : k < c
    · obtain ⟨g, o, c', e, _, _⟩ := OwnT.form (H.ok _ List.mem_cons_self) (by omega)
      simp only [Value.slice.injEq, true_and] at e
      obtain ⟨rfl, rfl⟩ := e
      have hkl : k * 3 + 3 ≤ xs.length := by have := mul_slot (k := k) (c := c) (K := 3) (by omega); omega
      have HM := Lib.hid (And.intro (by rw [bkPut_len hb.sz hkl]; exact hlen : (bkPut xs k 3 b).length = c * 3) (And.intro (hm1.off hb.sz hkl hnk) (hmk.step hb.sz hkl)))
      clear hmk hlen hm1
      go_wp2_with (first
        | go_skip
        | ((with_reducible show wpList _ _ _ (_ :: _) _ _); (with_reducible apply wpl_loadRH row_flow); (· rfl); (· rfl); (· exact H); (· (repeat (first | (with_reducible exact List.mem_cons_self) | with_reducible apply List.mem_cons_of_mem))); (· exact hb2); (· exact he2); (simp only [Act.put, List.setIfInBounds_toArray, List.set_cons_zero, List.set_cons_succ]))
        | ((with_reducible show wpList _ _ _ (_ :: _) _ _); (with_reducible apply wpl_storeOwnR row_flow); (· rfl); (· rfl); (· rfl); (· first | exact hm.cells | exact hb.cells); (· exact H); (· (repeat (first | (with_reducible exact List.mem_cons_self) | with_reducible apply List.mem_cons_of_mem))); (· rfl); (· exact hkl); (· rfl); (· (repeat (first | (with_reducible exact Repl.here) | with_reducible apply Repl.there))); (clear H; intro _ H); (simp only [Act.put, List.setIfInBounds_toArray, List.set_cons_zero, List.set_cons_succ])))
      refine ⟨?_, ?_⟩
      · exact ⟨⟨k + 1, _, by go_num, by omega, by omega, ⟨HM.out.1, HM.out.2⟩, H⟩⟩
      · simp [intOf]; omega
    · obtain rfl : c = k := by omega
      have HM := Lib.hid (And.intro hm1 hmk)
      clear hmk hm1
      go_wp2_with (go_skip)
      go_end0
      exact ⟨rfl, (H.drop (.there .here)).shutFull hn HC.out HM.out⟩
structure SLoopFl (W : World) (l : List Thing) (c : Nat) (i : Value) (wr : World) : Prop where
  out : ∃ k : Nat, i = .int .i64 (k : Int) ∧ k ≤ c ∧ Heap W l wr
theorem stands_Fl (a : Option Addr) (n c : Nat) (m b : Array Value) (hm : GoodR 3 53 m) (hb : GoodR 3 53 b) (H : Heap W (FullT 53 3 a n c (fun xs => MarksR 3 m 0 n xs ∧ MarksR 3 b n c xs) :: l) w) :
    Calls Tryz.prog 135 #[.agg (browR (.slice a n c) m b)] w fun e w' => e = .returned (.bool true) ∧ Heap W (FullT 53 3 a n c (fun xs => MarksR 3 m 0 n xs ∧ MarksR 3 b n c xs) :: l) w' := by
  obtain ⟨xs, hm0, hn, hc, hl, ha, H'⟩ := H.openFull
  clear H
  have H := H'
  clear H'
  have hsl := fun wx => run_cutTo slF a n c c .i64 (Nat.le_refl _) wx
  have hcm := hc
  unfold maxLen at hcm
  have HC := Lib.hid hc
  have HM := Lib.hid hm0
  have HL := Lib.hid hl
  clear ha hc hl hm0
  have hb1 : 1 + 3 ≤ (browR (.slice a n c) m b).size := by rw [browR_sz hm.sz hb.sz]; omega
  have hb2 : 1 + 3 + 3 ≤ (browR (.slice a n c) m b).size := by rw [browR_sz hm.sz hb.sz]; omega
  have he1 : (browR (.slice a n c) m b).extract 1 (1 + 3) = m := browR_g1 hm.sz
  have he2 : (browR (.slice a n c) m b).extract (1 + 3) (1 + 3 + 3) = b := browR_g2 hm.sz hb.sz
  go_enter Tryz.func135, Tryz.ntmps135
  go_wp2_with (first
    | go_skip
    | ((with_reducible show wpList _ _ _ (_ :: _) _ _); (with_reducible apply wpl_boxRH); (· rfl); (· rfl); (· exact H); (clear H; intro pb _ H); (simp only [Act.put, List.setIfInBounds_toArray, List.set_cons_zero, List.set_cons_succ]))
    | ((with_reducible show wpList _ _ _ (_ :: _) _ _); (with_reducible apply wpl_loadCH); (· exact cell_slFl); (· rfl); (· rfl); (· exact H); (· (repeat (first | (with_reducible exact List.mem_cons_self) | with_reducible apply List.mem_cons_of_mem))); (· exact browR_g0 ..); (simp only [Act.put, List.setIfInBounds_toArray, List.set_cons_zero, List.set_cons_succ])))
  clear hsl
  have H0 := H
  clear H
  go_loopw [4] (fun i wr => SLoopFl W (Cel pb (browR (.slice a n c) m b) 77 :: OwnT 53 3 (.slice a c c) c xs :: l) c i wr) (fun i _ => c - (intOf i).toNat)
  case atStart => exact ⟨0, rfl, by omega, H0⟩
  case round =>
    obtain ⟨k, rfl, hk, H'⟩ := hrel.out
    clear H0 hrel
    have H := H'
    clear H'
    by_cases hlt : k < c
    · obtain ⟨g, o, c', e, _, _⟩ := OwnT.form (H.ok _ (List.mem_cons_of_mem _ List.mem_cons_self)) (by omega)
      simp only [Value.slice.injEq, true_and] at e
      obtain ⟨rfl, rfl⟩ := e
      have hkl : k * 3 + 3 ≤ xs.length := by have := mul_slot (k := k) (c := c) (K := 3) (by omega); rw [HL.out]; omega
      by_cases hkn : k < n
      · have hx := HM.out.1 k (by omega) hkn
        have HX := Lib.hid (show ∀ w', Heap W (Cel pb (browR (.slice (some ⟨g, o, none⟩) n c) m b) 77 :: OwnT 53 3 (.slice (some ⟨g, o, none⟩) c c) c xs :: l) w' → Rd w' (some ⟨g, o, none⟩) xs from fun w' h => h.ownRd (List.mem_cons_of_mem _ List.mem_cons_self))
        have hxa : ((xs.drop (k * 3)).take 3).toArray = m := by rw [hx]
        clear hx
        have hd1 : decide ((k : Int) < n) = true := by simp; omega
        have hd3 : decide (n ≤ k) = false := by simp; omega
        have hd4 : decide (k < n) = true := by simp; omega
        have hq := hm.neq
        go_wp2_with (go_skip)
        refine wp_region_H H (by kernel_rfl) (by kernel_rfl) ?_
        repeat (first | go_big_quiet_skip | (first | ((with_reducible apply wpQ_loadCH); (· exact cell_slFl); (· rfl); (· rfl); (· (repeat (first | (with_reducible exact List.mem_cons_self) | with_reducible apply List.mem_cons_of_mem))); (· exact browR_g0 ..); (simp only [Act.put, List.setIfInBounds_toArray, List.set_cons_zero, List.set_cons_succ])) | ((with_reducible apply wpQ_loadRH row_flow); (· rfl); (· rfl); (· (repeat (first | (with_reducible exact List.mem_cons_self) | with_reducible apply List.mem_cons_of_mem))); (· exact hb1); (· exact he1); (simp only [Act.put, List.setIfInBounds_toArray, List.set_cons_zero, List.set_cons_succ])) | ((with_reducible apply wpQ_loadRH row_flow); (· rfl); (· rfl); (· (repeat (first | (with_reducible exact List.mem_cons_self) | with_reducible apply List.mem_cons_of_mem))); (· exact hb2); (· exact he2); (simp only [Act.put, List.setIfInBounds_toArray, List.set_cons_zero, List.set_cons_succ])) | ((with_reducible apply wpQ_loadRdR row_flow); (· rfl); (· rfl); (· exact HX.out); (· rfl); (· exact hkl); (· decide); (· exact hxa); (simp only [Act.put, List.setIfInBounds_toArray, List.set_cons_zero, List.set_cons_succ])) | ((with_reducible apply wpQ_neqFl); (· rfl); (· rfl); (· rfl); (· exact hq); (simp only [Act.put, List.setIfInBounds_toArray, List.set_cons_zero, List.set_cons_succ]))) | go_big_quiet_step (fail))
        refine wpQuiet_nil ?_
        clear H
        intro _ H
        go_wp2_with (go_skip)
        refine ⟨?_, ?_⟩
        · exact ⟨⟨k + 1, by go_num, by omega, H⟩⟩
        · simp [intOf]; omega
      · have hx := HM.out.2 k (by omega) hlt
        have HX := Lib.hid (show ∀ w', Heap W (Cel pb (browR (.slice (some ⟨g, o, none⟩) n c) m b) 77 :: OwnT 53 3 (.slice (some ⟨g, o, none⟩) c c) c xs :: l) w' → Rd w' (some ⟨g, o, none⟩) xs from fun w' h => h.ownRd (List.mem_cons_of_mem _ List.mem_cons_self))
        have hxa : ((xs.drop (k * 3)).take 3).toArray = b := by rw [hx]
        clear hx
        have hd1 : decide ((k : Int) < n) = false := by simp; omega
        have hd3 : decide (n ≤ k) = true := by simp; omega
        have hd4 : decide (k < n) = false := by simp; omega
        have hq := hb.neq
        go_wp2_with (go_skip)
        refine wp_region_H H (by kernel_rfl) (by kernel_rfl) ?_
        repeat (first | go_big_quiet_skip | (first | ((with_reducible apply wpQ_loadCH); (· exact cell_slFl); (· rfl); (· rfl); (· (repeat (first | (with_reducible exact List.mem_cons_self) | with_reducible apply List.mem_cons_of_mem))); (· exact browR_g0 ..); (simp only [Act.put, List.setIfInBounds_toArray, List.set_cons_zero, List.set_cons_succ])) | ((with_reducible apply wpQ_loadRH row_flow); (· rfl); (· rfl); (· (repeat (first | (with_reducible exact List.mem_cons_self) | with_reducible apply List.mem_cons_of_mem))); (· exact hb1); (· exact he1); (simp only [Act.put, List.setIfInBounds_toArray, List.set_cons_zero, List.set_cons_succ])) | ((with_reducible apply wpQ_loadRH row_flow); (· rfl); (· rfl); (· (repeat (first | (with_reducible exact List.mem_cons_self) | with_reducible apply List.mem_cons_of_mem))); (· exact hb2); (· exact he2); (simp only [Act.put, List.setIfInBounds_toArray, List.set_cons_zero, List.set_cons_succ])) | ((with_reducible apply wpQ_loadRdR row_flow); (· rfl); (· rfl); (· exact HX.out); (· rfl); (· exact hkl); (· decide); (· exact hxa); (simp only [Act.put, List.setIfInBounds_toArray, List.set_cons_zero, List.set_cons_succ])) | ((with_reducible apply wpQ_neqFl); (· rfl); (· rfl); (· rfl); (· exact hq); (simp only [Act.put, List.setIfInBounds_toArray, List.set_cons_zero, List.set_cons_succ]))) | go_big_quiet_step (fail))
        refine wpQuiet_nil ?_
        clear H
        intro _ H
        go_wp2_with (go_skip)
        refine ⟨?_, ?_⟩
        · exact ⟨⟨k + 1, by go_num, by omega, H⟩⟩
        · simp [intOf]; omega
    · obtain rfl : c = k := by omega
      go_wp2_with (go_skip)
      go_ret
      exact ⟨rfl, H.tail.shutFull hn HC.out HM.out⟩
/-- A page of such a list. -/
def pageFl (a : Option Addr) (n c : Nat) (m b : Array Value) : PageT := ⟨77, .agg (browR (.slice a n c) m b), FullT 53 3 a n c (fun _ => True), FullT 53 3 a n c (MarksR 3 m 0 n), FullT 53 3 a n c (fun xs => MarksR 3 m 0 n xs ∧ MarksR 3 b n c xs)⟩
theorem pageFl_ok (a : Option Addr) (n c : Nat) (m b : Array Value) (hm : GoodR 3 53 m) (hb : GoodR 3 53 b) : PageOk (pageFl a n c m b) :=
  ⟨⟨136, ⟨fun _ _ => by kernel_rfl, Tryz.call136⟩, fun W l w H => write_Fl a n c m b hm hb H⟩,
   ⟨137, ⟨fun _ _ => by kernel_rfl, Tryz.call137⟩, fun W l w H => behind_Fl a n c m b hm hb H⟩,
   ⟨135, ⟨fun _ _ => by kernel_rfl, Tryz.call135⟩, fun W l w H => stands_Fl a n c m b hm hb H⟩⟩
theorem lay_Fl (kb : Nat) (ps : List PageT) (a : Option Addr) (n c : Nat) {xs : List Value} (hp : ps.length < 120) (B : Book W (OwnT 53 3 (.slice a n c) n xs :: l) kb ps w) :
    Calls Tryz.prog 11 #[.pointer (some ⟨kb, 0, none⟩), .slice a n c] w fun e w' => e = .returned (.tuple #[]) ∧ ∃ p, Book W l kb (ps ++ [p]) w' := by
  obtain ⟨ba, bc, H, hok⟩ := B
  obtain ⟨N, hN⟩ : ∃ N, ps.length = N := ⟨_, rfl⟩
  rw [hN] at H
  have hn1 : N + 1 ≤ maxLen := by unfold maxLen; omega
  have hn2 : (N + 1) * 16 ≤ 140737488355328 := by omega
  have hNB := number_H (W := W) (l := BkT kb (.slice ba N bc) :: PgsT (.slice ba N bc) N (ps.map PageT.v) :: (ps.map PageT.t0 ++ OwnT 53 3 (.slice a n c) n xs :: l)) kb ba N bc (by omega) List.mem_cons_self
  have HO := Lib.hid (And.intro hok hN)
  have hN120 : N < 120 := by omega
  clear hok hN hp
  go_enter Tryz.func11, Tryz.ntmps11
  go_wp2_with (first
    | go_skip
    | ((with_reducible refine AnsH.call (by assumption) H ?_); clear H; intro _ H)
    | ((with_reducible show wpList _ _ _ (_ :: _) _ _); (with_reducible apply wpl_loadCH); (· exact cell_pages); (· rfl); (· rfl); (· exact H); (· (repeat (first | (with_reducible exact List.mem_cons_self) | with_reducible apply List.mem_cons_of_mem))); (· exact bookC_g _); (simp only [Act.put, List.setIfInBounds_toArray, List.set_cons_zero, List.set_cons_succ]))
    | ((with_reducible show wpList _ _ _ (_ :: _) _ _); (with_reducible apply wpl_bsOnes _ [(pageFl a n c (mkN ((N : Int) + 1)) (mkM ((N : Int) + 1))).v]); (· rfl); (· rfl); (· rfl); (· decide); (· decide); (· intro v hv; rw [List.mem_singleton.1 hv]; rfl); (· exact bs_page); (· rfl); (· exact H); (clear H; intro pk _ H); (simp only [Act.put, List.setIfInBounds_toArray, List.set_cons_zero, List.set_cons_succ]))
    | ((with_reducible show wpList _ _ _ (_ :: _) _ _); (with_reducible apply wpl_appendH slPage); (· rfl); (· rfl); (· rfl); (· rfl); (· exact H.top2 (.there (.there .here)) .here); (· exact H.celRd List.mem_cons_self); (· rfl); (· intro u hu; rw [List.mem_singleton.1 hu]; rfl); (· exact hn1); (· exact hn2); (clear H; intro v2 _ H; obtain ⟨a2, c2, rfl, _, _⟩ := RowT.form0 (H.ok _ List.mem_cons_self)); (simp only [Act.put, List.setIfInBounds_toArray, List.set_cons_zero, List.set_cons_succ]))
    | ((with_reducible show wpList _ _ _ (_ :: _) _ _); (with_reducible apply wpl_storeSH); (· exact cell_pages); (· rfl); (· rfl); (· rfl); (· exact H); (· (repeat (first | (with_reducible exact List.mem_cons_self) | with_reducible apply List.mem_cons_of_mem))); (· exact Nat.le_refl 1); (· rfl); (· (repeat (first | (with_reducible exact Repl.here) | with_reducible apply Repl.there))); (clear H; intro _ H); (simp only [Act.put, List.setIfInBounds_toArray, List.set_cons_zero, List.set_cons_succ])))
  go_end0
  refine ⟨rfl, pageFl a n c (mkN ((N : Int) + 1)) (mkM ((N : Int) + 1)), a2, c2, ?_, fun p hp => ?_⟩
  · rw [List.length_append, List.length_singleton, HO.out.2, List.map_append, List.map_append]
    have H2 := H.drop (.there .here)
    have p1 : (RowT 87 1 (.slice a2 (N + 1) c2) (N + 1) (ps.map PageT.v ++ [(pageFl a n c (mkN ((N : Int) + 1)) (mkM ((N : Int) + 1))).v]) :: BkT kb (.slice a2 (N + 1) c2) :: (ps.map PageT.t0 ++ OwnT 53 3 (.slice a n c) n xs :: l)).Perm
        (OwnT 53 3 (.slice a n c) n xs :: BkT kb (.slice a2 (N + 1) c2) :: PgsT (.slice a2 (N + 1) c2) (N + 1) (ps.map PageT.v ++ [(pageFl a n c (mkN ((N : Int) + 1)) (mkM ((N : Int) + 1))).v]) :: (ps.map PageT.t0 ++ l)) :=
      (List.Perm.swap _ _ _).trans (((List.Perm.cons _ (List.Perm.cons _ List.perm_middle)).trans (List.Perm.cons _ (.swap _ _ _))).trans (.swap _ _ _))
    have H3 := (H2.perm p1).toFull
    refine H3.perm ?_
    exact (List.Perm.swap _ _ _).trans (List.Perm.cons _ ((List.Perm.swap _ _ _).trans (List.Perm.cons _ (by rw [List.append_assoc]; exact List.perm_middle.symm))))
  · rcases List.mem_append.1 hp with h | h
    · exact HO.out.1 p h
    · rw [List.mem_singleton.1 h]; exact pageFl_ok _ _ _ _ _ (mkN_good _) (mkM_good _)
end
end Go.Proofs.YtgobnamhdkbbeaaGreat

/- The chapter's example of rounds: what it comes to. (Plain.) -/
namespace Go.Proofs.YtgobnamhdkbbeaaGreat
open Go.RowKit
set_option linter.unusedSimpArgs false
set_option linter.unusedVariables false
set_option maxRecDepth 100000
def l8A : List Flw := [⟨1, 2, 5⟩, ⟨2, 3, 3⟩, ⟨3, 1, 4⟩]
def l8B : List Flw := [⟨1, 2, 2⟩, ⟨3, 1, 1⟩]
theorem mayD_of {F : List Flw} (h : ∀ i, i < F.length → ∃ x, F[i]? = some x ∧ okD x = true ∧ ∀ y, 0 < i → F[i - 1]? = some y → cfF y x < 0) : MayD F := by
  intro i x hi hx
  obtain ⟨y, h1, h2, h3⟩ := h i hi
  rw [hx] at h1
  cases h1
  exact ⟨h2, h3⟩
theorem l8A_may : MayD l8A := mayD_of fun i hi => by
  have : i = 0 ∨ i = 1 ∨ i = 2 := by simp [l8A] at hi; omega
  rcases this with rfl | rfl | rfl
  · exact ⟨_, rfl, by decide, fun y h => by omega⟩
  · exact ⟨_, rfl, by decide, fun y _ h => by cases h; decide⟩
  · exact ⟨_, rfl, by decide, fun y _ h => by cases h; decide⟩
theorem r8a : roundOf (edD l8A [5, 3, 4]) = [1, 2, 3] := by decide +kernel
theorem r8b : roundOf (edD l8A [2, 0, 1]) = [] := by decide +kernel
theorem l8A_steps : StepsAre l8A [5, 3, 4] [1, 2, 3] [(0, false), (1, false), (2, false)] := ⟨rfl, fun k hk => by
  have : k = 0 ∨ k = 1 ∨ k = 2 := by simp at hk; omega
  rcases this with rfl | rfl | rfl
  · exact ⟨0, false, rfl, ⟨1, 2, 5⟩, 5, rfl, rfl, .inl ⟨rfl, rfl, rfl, by decide⟩⟩
  · exact ⟨1, false, rfl, ⟨2, 3, 3⟩, 3, rfl, rfl, .inl ⟨rfl, rfl, rfl, by decide⟩⟩
  · exact ⟨2, false, rfl, ⟨3, 1, 4⟩, 4, rfl, rfl, .inl ⟨rfl, rfl, rfl, by decide⟩⟩⟩
theorem l8A_one : RdTr l8A 1 [2, 0, 1] := .step (N := [5, 3, 4]) .nil (by rw [r8a]; simp) ⟨_, by rw [r8a]; exact l8A_steps, by decide⟩
theorem l8_2 : LeastOut 13 l8A 0 [] 0 13 := .inr ⟨l8A_may, by decide, 0, _, .nil, by decide, .inr ⟨by rw [show l8A.map Flw.n = [5, 3, 4] from rfl, r8a]; simp, rfl, rfl, rfl, rfl⟩⟩
def x8A : Array Value := (flwL l8A).toArray
def x8B : Array Value := (flwL l8B).toArray
end Go.Proofs.YtgobnamhdkbbeaaGreat

/- The chapter's example of nettings: what it comes to. (Plain.) -/
namespace Go.Proofs.YtgobnamhdkbbeaaGreat
open Go.RowKit
set_option linter.unusedSimpArgs false
set_option linter.unusedVariables false
set_option maxRecDepth 100000
abbrev n13S : Lgr := ⟨[1, 2, 3], [⟨1, 3, 6, 9, 4⟩, ⟨2, 1, 6, 9, 5⟩, ⟨3, 2, 6, 9, 3⟩]⟩
abbrev n13T : Lgr := ⟨[1, 2, 3], [⟨1, 3, 6, 9, 1⟩, ⟨2, 1, 6, 9, 2⟩, ⟨3, 2, 6, 9, 0⟩]⟩
abbrev n13a : Lgr := openS (openS (openS Lgr.new ((1 : Nat) : Int)) ((2 : Nat) : Int)) ((3 : Nat) : Int)
abbrev n13b : Lgr := trustS n13a ((2 : Nat) : Int) ((1 : Nat) : Int) ((6 : Nat) : Int) 9
abbrev n13c : Lgr := trustS n13b ((3 : Nat) : Int) ((2 : Nat) : Int) ((6 : Nat) : Int) 9
abbrev n13d : Lgr := trustS n13c ((1 : Nat) : Int) ((3 : Nat) : Int) ((6 : Nat) : Int) 9
abbrev n13e : Lgr := pushS n13d ((1 : Nat) : Int) ((2 : Nat) : Int) ((6 : Nat) : Int) 5
abbrev n13f : Lgr := pushS n13e ((2 : Nat) : Int) ((3 : Nat) : Int) ((6 : Nat) : Int) 3
abbrev n13g : Lgr := pushS n13f ((3 : Nat) : Int) ((1 : Nat) : Int) ((6 : Nat) : Int) 4
theorem n13_is : n13g = n13S := by kernel_rfl
theorem n13a_good : n13a.Good := ((Lgr.new_good.open _).open _).open _
theorem n13b_good : n13b.Good := n13a_good.trust _ _ _ _
theorem n13c_good : n13c.Good := n13b_good.trust _ _ _ _
theorem n13d_good : n13d.Good := n13c_good.trust _ _ _ _
theorem n13e_good : n13e.Good := n13d_good.push _ _ _ _
theorem n13f_good : n13f.Good := n13e_good.push _ _ _ _
theorem n13g_good : n13g.Good := n13f_good.push _ _ _ _
theorem n13S_good : n13S.Good := by rw [← n13_is]; exact n13g_good
theorem n13S_dbt : dbtS n13S.L 6 = l8A := by unfold dbtS; kernel_rfl
theorem n13T_dbt : dbtS n13T.L 6 = l8B := by unfold dbtS; kernel_rfl
theorem n13_go : forgL n13S 6 l8B l8A = n13T := by kernel_rfl
theorem n13_go2 : forgL n13T 6 l8B l8B = n13T := by kernel_rfl
theorem n13T_good : n13T.Good := by rw [← n13_go]; exact forgL_good n13S_good _ _ _
theorem r13b : roundOf (edD l8B [2, 1]) = [] := by decide +kernel
theorem l8B_may : MayD l8B := mayD_of fun i hi => by
  have : i = 0 ∨ i = 1 := by simp [l8B] at hi; omega
  rcases this with rfl | rfl
  · exact ⟨_, rfl, by decide, fun y h => by omega⟩
  · exact ⟨_, rfl, by decide, fun y _ h => by cases h; decide⟩
theorem l13_1 : LeastOut 13 l8A 1 l8B 1 0 := .inr ⟨l8A_may, by decide, 1, _, l8A_one, by decide, .inl ⟨r8b, rfl, rfl, rfl⟩⟩
theorem l13_2 : LeastOut 13 l8B 0 l8B 0 0 := .inr ⟨l8B_may, by decide, 0, _, .nil, by decide, .inl ⟨r13b, rfl, rfl, rfl⟩⟩
theorem n13_0 : NetOut n13S 6 0 0 0 13 n13S := .inr ⟨by omega, [], 0, by rw [n13S_dbt]; exact l8_2, .inl ⟨by omega, rfl, rfl, rfl⟩⟩
theorem n13_1 : NetOut n13S 6 1 9 1 0 n13T := .inr ⟨by omega, l8B, 1, by rw [n13S_dbt]; exact l13_1, .inr ⟨rfl, rfl, by rw [n13S_dbt, n13_go], by kernel_rfl⟩⟩
theorem n13_2 : NetOut n13T 6 0 0 0 0 n13T := .inr ⟨by omega, l8B, 0, by rw [n13T_dbt]; exact l13_2, .inr ⟨rfl, rfl, by rw [n13T_dbt, n13_go2], by kernel_rfl⟩⟩
end Go.Proofs.YtgobnamhdkbbeaaGreat

/- A slice literal of whatever elements. -/
namespace Go.Proofs.YtgobnamhdkbbeaaGreat
open Go.RowKit
set_option linter.unusedSimpArgs false
set_option linter.unusedVariables false
section
variable {W w : World} {l : List Thing}
theorem wpl_bsAny {dst : Option Tmp} {ty : TypeId} {pos : String} {after : Array Edge} {guard : Option (Nat × Bool)} {t e n size bytes : Nat} {z : Value} {ops : Array Oper} {rest : List Oper} {a : Act} {Q : Exit → Act → World → Prop} (T : SlTy Tryz.prog t e size bytes z) (xs : List (Nat × Operand)) (vs : List (Nat × Value)) (c : Array Value) (hw : Region.wanted ⟨dst, .buildSlice t n xs.toArray, ty, pos, after, guard⟩ (yielded ops a.tmps) = true)
    (hx : xs.map (fun (i, x) => (i, a.eval x)) = vs) (h0 : 0 < n) (h1 : n * size ≤ 65536)
    (hf : Instr.fill (fun i => some (i * size, size)) (Array.map (fun x => z.cells[x % z.cells.size]!) (Array.range (n * size))) vs = some c)
    (H : Heap W l w) (h : ∀ p w', Heap W (Cel p c e :: l) w' → wpList Tryz.prog ops Q rest (a.put dst (.slice (some ⟨p, 0, none⟩) n n)) w') : wpList Tryz.prog ops Q (⟨dst, .buildSlice t n xs.toArray, ty, pos, after, guard⟩ :: rest) a w := by
  obtain ⟨i, hi, hz, hsi, hbi⟩ := T.inf
  have h2 := T.pos
  have h3 : n ≤ n * size := Nat.le_mul_of_pos_right _ h2
  have r1 : (sizeOf e).run Tryz.prog w = .ok size w := by simp [sizeOf, typeInfo, hi, hsi, go_sem]
  have r2 : (zeroValue e).run Tryz.prog w = .ok z w := by simp [zeroValue, typeInfo, hi, hz, go_sem]
  refine BigFrame.wpList_want hw fun K hK => ?_
  have hrun : (Instr.buildSlice t n (xs.toArray.map fun (i, x) => (i, a.eval x))).run Tryz.prog w = .ok (.slice (some ⟨w.heap.size, 0, none⟩) n n) (w.alloc (.cells c e)) := by
    unfold Instr.buildSlice
    rw [Sem.run_bind, run_underlying T.und]
    simp only [Result.andThen_ok]
    rw [Sem.run_bind, r1]
    simp only [Result.andThen_ok]
    rw [if_neg (by omega), if_neg (by omega)]
    simp only [Sem.run_bind, r2, Result.andThen_ok, Sem.run_pure]
    have hx2 : (xs.toArray.map (fun (i, x) => (i, a.eval x))).toList = vs := by rw [← hx]; simp
    rw [hx2, hf]
    simp [newRow, go_sem]
  unfold Oper.wp execOp
  simp only [Sem.run_bind, hrun, Result.andThen_ok, Sem.run_pure]
  exact hK _ _ (h _ _ (H.alloc _ _))
end
end Go.Proofs.YtgobnamhdkbbeaaGreat

/- The chapter's example of nettings. -/
namespace Go.Proofs.YtgobnamhdkbbeaaGreat
open Go.RowKit
set_option linter.unusedSimpArgs false
set_option linter.unusedVariables false
set_option maxRecDepth 100000
section
variable {W w : World} {l : List Thing}
set_option maxHeartbeats 8000000
theorem lives13_H (H : Heap W l w) : Calls Tryz.prog 4 #[] w fun e w' => e = .returned (.bool true) ∧ Heap W l w' := by
  go_enter Tryz.func4, Tryz.ntmps4
  go_wp2_with (go_skip)
  refine (lnew_H H).mono ?_
  clear H
  rintro e w1 ⟨p, q, rfl, H⟩
  go_wp2_with (go_skip)
  refine (lopen2_H (p := p) (q := q) (S := Lgr.new) 1 (by omega) H).mono ?_
  clear H
  rintro e w2 ⟨rfl, H⟩
  go_wp2_with (go_skip)
  refine (lopen2_H (p := p) (q := q) (S := openS Lgr.new ((1 : Nat) : Int)) 2 (by omega) H).mono ?_
  clear H
  rintro e w3 ⟨rfl, H⟩
  go_wp2_with (go_skip)
  refine (lopen2_H (p := p) (q := q) (S := openS (openS Lgr.new ((1 : Nat) : Int)) ((2 : Nat) : Int)) 3 (by omega) H).mono ?_
  clear H
  rintro e w4 ⟨rfl, H⟩
  replace H : Heap W (LdC p n13a.P (some q) :: LdM q n13a.L :: l) w4 := H
  go_wp2_with (go_skip)
  refine (ltrust2_H (p := p) (q := q) (S := n13a) 2 1 6 9 (by omega) (by omega) (by omega) n13a_good H).mono ?_
  clear H
  rintro e w5 ⟨rfl, H⟩
  go_wp2_with (go_skip)
  refine (ltrust2_H (p := p) (q := q) (S := n13b) 3 2 6 9 (by omega) (by omega) (by omega) n13b_good H).mono ?_
  clear H
  rintro e w6 ⟨rfl, H⟩
  go_wp2_with (go_skip)
  refine (ltrust2_H (p := p) (q := q) (S := n13c) 1 3 6 9 (by omega) (by omega) (by omega) n13c_good H).mono ?_
  clear H
  rintro e w7 ⟨rfl, H⟩
  go_wp2_with (go_skip)
  refine (lpush2_H (p := p) (q := q) (S := n13d) 1 2 6 5 (by omega) (by omega) (by omega) (by omega) n13d_good H).mono ?_
  clear H
  rintro e w8 ⟨rfl, H⟩
  go_wp2_with (go_skip)
  refine (lpush2_H (p := p) (q := q) (S := n13e) 2 3 6 3 (by omega) (by omega) (by omega) (by omega) n13e_good H).mono ?_
  clear H
  rintro e w9 ⟨rfl, H⟩
  go_wp2_with (go_skip)
  refine (lpush2_H (p := p) (q := q) (S := n13f) 3 1 6 4 (by omega) (by omega) (by omega) (by omega) n13f_good H).mono ?_
  clear H
  rintro e w10 ⟨rfl, H⟩
  replace H : Heap W (LdC p n13g.P (some q) :: LdM q n13g.L :: l) w10 := H
  rw [n13_is] at H
  go_wp2_with (go_skip)
  refine (debts13_H (p := p) (q := q) (S := n13S) 6 (by omega) n13S_good .here .here H).mono ?_
  clear H
  rintro e w11 ⟨v1, rfl, H⟩
  rw [n13S_dbt] at H
  obtain ⟨a1, c1, rfl, _, hc1⟩ := OwnT.form0 (H.ok _ List.mem_cons_self)
  go_wp2_with (go_skip)
  refine (net13_H (p := p) (q := q) (S := n13S) 6 0 (by omega) (by omega) n13S_good (H.top2 (.there .here) (.there .here))).mono ?_
  clear H
  rintro e w12 ⟨k1, k2, k3, S', rfl, ho, H⟩
  obtain ⟨rfl, rfl, rfl, rfl⟩ := ho.det n13_0
  clear ho
  go_wp2_with (go_skip)
  refine (net13_H (p := p) (q := q) (S := n13S) 6 1 (by omega) (by omega) n13S_good H).mono ?_
  clear H
  rintro e w13 ⟨k1, k2, k3, S', rfl, ho, H⟩
  obtain ⟨rfl, rfl, rfl, rfl⟩ := ho.det n13_1
  clear ho
  go_wp2_with (go_skip)
  refine (debts13_H (p := p) (q := q) (S := n13T) 6 (by omega) n13T_good .here .here H).mono ?_
  clear H
  rintro e w14 ⟨v2, rfl, H⟩
  rw [n13T_dbt] at H
  obtain ⟨a2, c2, rfl, _, hc2⟩ := OwnT.form0 (H.ok _ List.mem_cons_self)
  go_wp2_with (go_skip)
  refine (net13_H (p := p) (q := q) (S := n13T) 6 0 (by omega) (by omega) n13T_good (H.top2 (.there .here) (.there .here))).mono ?_
  clear H
  rintro e w15 ⟨k1, k2, k3, S', rfl, ho, H⟩
  obtain ⟨rfl, rfl, rfl, rfl⟩ := ho.det n13_2
  clear ho
  go_wp2_with (first
    | go_skip
    | ((with_reducible show wpList _ _ _ (_ :: _) _ _); (with_reducible apply wpl_bsAny (n := 3) slF _ _ x8A); (· rfl); (· rfl); (· decide); (· decide); (· kernel_rfl); (· exact H); (clear H; intro pA _ H); (simp only [Act.put, List.setIfInBounds_toArray, List.set_cons_zero, List.set_cons_succ])))
  have S1 := sameFlows_P (W := W) (l := Cel pA x8A 53 :: LdC p n13T.P (some q) :: LdM q n13T.L :: FlT (.slice a2 l8B.length c2) l8B.length l8B :: FlT (.slice a1 l8A.length c1) l8A.length l8A :: l) (A := l8A) (B := l8A) a1 (some ⟨pA, 0, none⟩) 3 3 c1 3 rfl rfl (by omega) (by omega) (fun w' h => h.ownRd (by (repeat (first | (with_reducible exact List.mem_cons_self) | with_reducible apply List.mem_cons_of_mem)))) (fun w' h => h.celRd (c := x8A) List.mem_cons_self)
  rw [decide_eq_true rfl] at S1
  refine (S1 _ H).mono ?_
  clear H S1
  rintro _ _ ⟨rfl, H⟩
  go_wp2_with (first
    | go_skip
    | ((with_reducible show wpList _ _ _ (_ :: _) _ _); (with_reducible apply wpl_bsAny (n := 2) slF _ _ x8B); (· rfl); (· rfl); (· decide); (· decide); (· kernel_rfl); (· exact H); (clear H; intro pB _ H); (simp only [Act.put, List.setIfInBounds_toArray, List.set_cons_zero, List.set_cons_succ])))
  have S1 := sameFlows_P (W := W) (l := Cel pB x8B 53 :: Cel pA x8A 53 :: LdC p n13T.P (some q) :: LdM q n13T.L :: FlT (.slice a2 l8B.length c2) l8B.length l8B :: FlT (.slice a1 l8A.length c1) l8A.length l8A :: l) (A := l8B) (B := l8B) a2 (some ⟨pB, 0, none⟩) 2 2 c2 2 rfl rfl (by omega) (by omega) (fun w' h => h.ownRd (by (repeat (first | (with_reducible exact List.mem_cons_self) | with_reducible apply List.mem_cons_of_mem)))) (fun w' h => h.celRd (c := x8B) List.mem_cons_self)
  rw [decide_eq_true rfl] at S1
  refine (S1 _ H).mono ?_
  clear H S1
  rintro _ _ ⟨rfl, H⟩
  go_wp2_with (go_skip)
  go_ret
  exact ⟨rfl, H.tail.tail.tail.tail.tail.tail⟩
end
end Go.Proofs.YtgobnamhdkbbeaaGreat
