/- Part 10 of what ProofBooksPlay stands on: Ref4c, Same4, BkOf, Open, Shape, Leaf, Open04, Made4. -/
import Derived.Test.YtacglcpjbepfnaaBksPPart9
import Derived.ProofKit
import Derived.OpenShut
import Derived.ChangeOld
import Derived.Test.YtacglcpjbepfnaaProg
import Derived.Lib.SmallJoins
/- countinghouseref04: Best. -/
namespace Go.Proofs.Ytacglcpjbepfnaa
open Go.RowKit
set_option linter.unusedSimpArgs false
set_option linter.unusedVariables false
set_option maxRecDepth 100000
abbrev dearP (x : Ofr) : Ofr → Bool := fun y => decide (cmpO y x ≤ 0)
theorem tw_take (p : Ofr → Bool) (M : List Ofr) : M.take (M.takeWhile p).length = M.takeWhile p := by
  have e := List.takeWhile_append_dropWhile (p := p) (l := M)
  conv => lhs; arg 2; rw [← e]
  exact List.take_left ..
theorem tw_drop (p : Ofr → Bool) (M : List Ofr) : M.drop (M.takeWhile p).length = M.dropWhile p := by
  have e := List.takeWhile_append_dropWhile (p := p) (l := M)
  conv => lhs; arg 2; rw [← e]
  exact List.drop_left ..
theorem tw_at (p : Ofr → Bool) : ∀ (M : List Ofr) (j : Nat), j < (M.takeWhile p).length → ∃ y, M[j]? = some y ∧ p y = true
  | [], j, h => by simp at h
  | a :: M, j, h => by
    rw [List.takeWhile_cons] at h
    split at h
    · rename_i ha
      rcases j with _ | j
      · exact ⟨a, rfl, ha⟩
      · simpa using tw_at p M j (by simpa using h)
    · simp at h
theorem tw_end (p : Ofr → Bool) : ∀ (M : List Ofr), (M.takeWhile p).length < M.length → ∃ y, M[(M.takeWhile p).length]? = some y ∧ p y = false
  | [], h => by simp at h
  | a :: M, h => by
    rw [List.takeWhile_cons] at h ⊢
    split at h
    · rename_i ha
      rw [if_pos ha]
      simpa using tw_end p M (by simpa using h)
    · rename_i ha
      rw [if_neg ha]
      exact ⟨a, rfl, by simpa using ha⟩
theorem tw_le (p : Ofr → Bool) (M : List Ofr) : (M.takeWhile p).length ≤ M.length := by
  have e := congrArg List.length (List.takeWhile_append_dropWhile (p := p) (l := M))
  rw [List.length_append] at e
  omega
theorem insO_split (M : List Ofr) (x : Ofr) : insO M x = M.take (M.takeWhile (dearP x)).length ++ [x] ++ M.drop (M.takeWhile (dearP x)).length := by
  rw [tw_take, tw_drop]
  unfold insO dearP
  simp
theorem fold_ins : ∀ (N out : List Ofr), (N.foldl insO out).length = out.length + N.length ∧ ∀ y ∈ N.foldl insO out, y ∈ out ∨ y ∈ N
  | [], out => ⟨by simp, fun y hy => .inl hy⟩
  | a :: N, out => by
    obtain ⟨h1, h2⟩ := fold_ins N (insO out a)
    have hp := insO_perm out a
    refine ⟨?_, fun y hy => ?_⟩
    · rw [List.foldl_cons, h1, hp.length_eq, List.length_append, List.length_cons]; simp; omega
    · rcases h2 y hy with h | h
      · rcases List.mem_append.1 (hp.mem_iff.1 h) with h | h
        · exact .inl h
        · rw [List.mem_singleton.1 h]; exact .inr List.mem_cons_self
      · exact .inr (List.mem_cons_of_mem _ h)
theorem bestO_len (L : List Ofr) (se bu : Int) : (bestO L se bu).length ≤ L.length := by
  unfold bestO
  rw [(fold_ins _ _).1]
  simpa using List.length_filter_le ..
theorem bestO_mem {L : List Ofr} {se bu : Int} {y : Ofr} (h : y ∈ bestO L se bu) : y ∈ L := by
  unfold bestO at h
  rcases (fold_ins _ _).2 y h with h | h
  · cases h
  · exact (List.mem_filter.1 h).1
theorem ofrL_rat {M : List Ofr} {j : Nat} {y : Ofr} (h : M[j]? = some y) : (((ofrL M).drop (j * 7 + 5)).take 2).toArray = ratA y.nu y.de := by
  obtain ⟨hj, rfl⟩ := List.getElem?_eq_some_iff.1 h
  have e : ofrL (M.drop j) = ofrV M[j] ++ ofrL (M.drop (j + 1)) := by rw [List.drop_eq_getElem_cons hj]; rfl
  rw [← List.drop_drop, ofrL_drop M j (by omega), e]
  generalize ofrL (M.drop (j + 1)) = X
  rfl
structure RBest1 (W : World) (l : List Thing) (L : List Ofr) (se bu : Int) (n : Nat) (vo i : Value) (wr : World) : Prop where
  out : ∃ (k m : Nat) (M : List Ofr), k ≤ n ∧ i = .int .i64 (k : Int) ∧ M = bestO (L.take k) se bu ∧ M.length = m ∧ Heap W (OfT vo m M :: l) wr
structure RBest2 (W : World) (l : List Thing) (t : Nat) (v : Value) (wr : World) : Prop where
  out : ∃ j : Nat, j ≤ t ∧ v = .int .i64 (j : Int) ∧ Heap W l wr
section
variable {ops : Array Oper} {rest : List Oper} {a : Act} {W w : World} {l : List Thing} {Q : Exit → Act → World → Prop} {dst : Option Tmp} {ty : TypeId} {pos : String} {after : Array Edge} {guard : Option (Nat × Bool)}
theorem wpl_cutFrom4 {t e size bytes : Nat} {z : Value} (T : SlTy Try.prog t e size bytes z) {x u : Operand} (hw : Region.wanted ⟨dst, .slice t x (some u) none none, ty, pos, after, guard⟩ (yielded ops a.tmps) = true)
    {ao : Option Addr} {n c lo : Nat} {k : IntKind} (hx : a.eval x = .slice ao n c) (hu : a.eval u = .int k (lo : Int)) (hn : lo ≤ n) (h : wpList Try.prog ops Q rest (a.put dst (.slice (cutA ao c lo size) (n - lo) (c - lo))) w) : wpList Try.prog ops Q (⟨dst, .slice t x (some u) none none, ty, pos, after, guard⟩ :: rest) a w := by
  refine wpl_pure hw _ (fun w => ?_) h
  have hr : (Instr.slice t (.slice ao n c) (some (.int k (lo : Int))) none none).run Try.prog w = .ok (.slice (cutA ao c lo size) (n - lo) (c - lo)) w := run_cutFrom (P := Try.prog) T ao n c lo k hn w
  have hs : (Instr.sliceAt t (.slice ao n c) (some (.int k (lo : Int))) none none).run Try.prog w = .ok (.slice (cutA ao c lo size) (n - lo) (c - lo)) w := by
    unfold Instr.sliceAt
    rw [Sem.run_bind, run_underlying T.und]
    simp only [Result.andThen_ok]
    exact hr
  unfold execOp
  simp only [hx, Option.map_some, hu, Option.map_none, Sem.run_bind, hs, Result.andThen_ok, Sem.run_pure]
end
section
variable {W w : World} {l : List Thing}
set_option maxHeartbeats 8000000
theorem rbest4_H {p n c : Nat} {a : Option Addr} {nx : Int} {L : List Ofr} (se bu : Int) (m1 : RBk p (.slice a n c) nx ∈ l) (m2 : OfT (.slice a n c) n L ∈ l) (hl : L.length = n) (hn : n ≤ 1000) (hL : ∀ o ∈ L, OfrOk o) (H : Heap W l w) :
    Calls Try.prog 75 #[.pointer (some ⟨p, 0, none⟩), .int .u8 se, .int .u8 bu] w fun e w' => ∃ a' n' c', e = .returned (.slice a' n' c') ∧ (bestO L se bu).length = n' ∧ Heap W (OfT (.slice a' n' c') n' (bestO L se bu) :: l) w' := by
  have HL := Lib.hid hl
  have HK := Lib.hid hL
  clear hl hL
  replace H := H.nilRow 83 7
  go_enter Try.func75, Try.ntmps75
  go_wp2_with (go_skip)
  have H0 := H
  clear H
  go_loopw [7, 8] (fun vo i wr => RBest1 W l L se bu n vo i wr) (fun _ i _ => n - (intOf i).toNat)
  case atStart => exact ⟨0, 0, [], Nat.zero_le _, rfl, rfl, rfl, H0⟩
  case round =>
    obtain ⟨k, m, M, hk, rfl, hM, hm, H⟩ := hrel.out
    clear H0 hrel
    have HM := Lib.hid (And.intro hM hm)
    have HMK := Lib.hid (show ∀ y ∈ M, OfrOk y from fun y hy => HK.out y (List.mem_of_mem_take (bestO_mem (hM ▸ hy))))
    have hmk : m ≤ k := by
      rw [← hm, hM]
      exact Nat.le_trans (bestO_len _ _ _) (by rw [List.length_take]; omega)
    clear hM hm
    obtain ⟨ao, co, rfl, ho1, ho2⟩ := RowT.form0 (H.ok _ List.mem_cons_self)
    by_cases hlt : k < n
    · have hkL : k < L.length := by rw [HL.out]; exact hlt
      have hrow := ofrL_get L k hkL
      have hlen1 : k * 7 + 7 ≤ (ofrL L).length := by rw [ofrL_len]; omega
      have hgk : L[k]? = some L[k] := List.getElem?_eq_getElem hkL
      have Rw := H.rowRd (List.mem_cons_of_mem _ m2)
      have hxk := HK.out L[k] (List.getElem_mem hkL)
      obtain ⟨ba, oa, rfl, _⟩ := Rw.lt (by omega)
      have HS := Lib.hid (show bestO (L.take (k + 1)) se bu = if ofC se bu L[k] = true then insO (bestO (L.take k) se bu) L[k] else bestO (L.take k) se bu by
        rw [List.take_add_one, hgk, Option.toList_some]; exact bestO_snoc _ _ _ _)
      have HX := Lib.hid hxk
      clear hgk Rw hxk
      generalize L[k] = x at *
      by_cases h1 : x.se = se
      · have d1 : (x.se != se) = false := by simp [h1]
        have d1b : (x.se == se) = true := by simp [h1]
        by_cases h2 : x.bu = bu
        · have d2 : (x.bu != bu) = false := by simp [h2]
          have d2b : (x.bu == bu) = true := by simp [h2]
          have HS2 := Lib.hid (show bestO (L.take (k + 1)) se bu = insO M x by rw [HS.out, if_pos (by unfold ofC; rw [d1b, d2b]; rfl), ← HM.out.1])
          clear HS h1 h2
          go_wp2_with (first
            | ((with_reducible show wpList _ _ _ (_ :: _) _ _); (with_reducible apply wpl_allocRH row_ofr); (· rfl); (· exact H); (clear H; intro px _ H); (simp only [Act.put, List.setIfInBounds_toArray, List.set_cons_zero, List.set_cons_succ]))
            | go_skip
            | ((with_reducible show wpList _ _ _ (_ :: _) _ _); (with_reducible apply wpl_loadCH); (· exact cell_ofrs); (· rfl); (· rfl); (· exact H); (· exact List.mem_cons_of_mem _ m1); (· exact bkb_g0 ..); (simp only [Act.put, List.setIfInBounds_toArray, List.set_cons_zero, List.set_cons_succ]))
            | ((with_reducible show wpList _ _ _ (_ :: _) _ _); (with_reducible apply wpl_loadRdR row_ofr); (· rfl); (· rfl); (· exact H.rowRd (List.mem_cons_of_mem _ m2)); (· rfl); (· exact hlen1); (· decide); (· exact hrow); (simp only [Act.put, List.setIfInBounds_toArray, List.set_cons_zero, List.set_cons_succ]))
            | ((with_reducible show wpList _ _ _ (_ :: _) _ _); (with_reducible apply wpl_storeRH row_ofr); (· rfl); (· rfl); (· rfl); (· with_reducible exact ofr_cells ..); (· exact H); (· (repeat (first | (with_reducible exact List.mem_cons_self) | with_reducible apply List.mem_cons_of_mem))); (· (simp only [ofrA_sz, Nat.reduceAdd, Nat.reduceLeDiff, Nat.le_refl]; done)); (· with_reducible exact ofr_splice ..); (· (repeat (first | (with_reducible exact Repl.here) | with_reducible apply Repl.there))); (clear H; intro _ H); (simp only [Act.put, List.setIfInBounds_toArray, List.set_cons_zero, List.set_cons_succ]))
            | ((with_reducible show wpList _ _ _ (_ :: _) _ _); (with_reducible apply wpl_loadCH); (· first | exact cell_u64 | exact cell_party | exact cell_cur | exact cell_i64); (· rfl); (· rfl); (· exact H); (· (repeat (first | (with_reducible exact List.mem_cons_self) | with_reducible apply List.mem_cons_of_mem))); (· with_reducible first | exact ofr_g0 .. | exact ofr_g1 .. | exact ofr_g2 .. | exact ofr_g3 .. | exact ofr_g4 ..); (simp only [Act.put, List.setIfInBounds_toArray, List.set_cons_zero, List.set_cons_succ])))
          clear d1 d1b d2 d2b
          have hte := tw_le (dearP x) M
          have HT := Lib.hid (And.intro (tw_at (dearP x) M) (And.intro (tw_end (dearP x) M) (insO_split M x)))
          generalize (M.takeWhile (dearP x)).length = t at *
          have htm : t ≤ m := by have := HM.out.2; omega
          clear hte
          have H0 := H
          clear H
          go_loopw [10] (fun v wr => RBest2 W (Cel px (ofrA x) 83 :: OfT (.slice ao m co) m M :: l) t v wr) (fun v _ => m - (intOf v).toNat)
          case atStart => exact ⟨0, Nat.zero_le _, rfl, H0⟩
          case round =>
            obtain ⟨j, hj, rfl, H⟩ := hrel.out
            clear H0 hrel
            by_cases hjt : j < t
            · obtain ⟨y, hy, hpy⟩ := HT.out.1 j hjt
              have hjm : j < m := by omega
              have e1 : decide ((j : Int) < (m : Int)) = true := decide_eq_true (by omega)
              have e2 : decide (j < m) = true := decide_eq_true hjm
              have e3 : decide (cmpO y x ≤ 0) = true := hpy
              have hyk := HMK.out y (List.mem_of_getElem? hy)
              have C := rcmp_ans (an := y.nu) (ad := y.de) (bn := x.nu) (bd := x.de) ⟨hyk.nu.1, hyk.nu.2, hyk.de.1, hyk.de.2⟩ ⟨HX.out.nu.1, HX.out.nu.2, HX.out.de.1, HX.out.de.2⟩
              change Ans _ _ (.int .i64 (cmpO y x)) at C
              generalize cmpO y x = q at *
              have hrat := ofrL_rat hy
              have hlen2 : j * 7 + 5 + 2 ≤ (ofrL M).length := by rw [ofrL_len]; have := HM.out.2; omega
              obtain ⟨g, c', e, _, _⟩ := RowT.sl (H.ok _ (List.mem_cons_of_mem _ List.mem_cons_self)) (by omega)
              simp only [Value.slice.injEq, true_and] at e
              obtain ⟨rfl, rfl⟩ := e
              have HQ := Lib.hid (fun (w' : World) (H' : Heap W (Cel px (ofrA x) 83 :: OfT (.slice (some ⟨g, 0, none⟩) m co) m M :: l) w') => H'.rowRd (List.mem_cons_of_mem _ List.mem_cons_self))
              clear hy hpy hyk
              go_wp2_with (go_skip)
              refine wp_region_H H (by kernel_rfl) (by kernel_rfl) ?_
              repeat (first | go_big_quiet_skip | (first | ((with_reducible apply wpQ_loadRdR0 row_rat); (· rfl); (· rfl); (· exact HQ.out); (· exact hlen2); (· decide); (· exact hrat); (simp only [Act.put, List.setIfInBounds_toArray, List.set_cons_zero, List.set_cons_succ])) | ((with_reducible apply wpQ_loadRH row_rat); (· rfl); (· rfl); (· (repeat (first | (with_reducible exact List.mem_cons_self) | with_reducible apply List.mem_cons_of_mem))); (· (simp only [ofrA_sz, Nat.reduceAdd, Nat.reduceLeDiff, Nat.le_refl]; done)); (· with_reducible exact ofr_rat ..); (simp only [Act.put, List.setIfInBounds_toArray, List.set_cons_zero, List.set_cons_succ]))) | go_big_quiet_step ((with_reducible first | exact AnsH.quiet (by assumption) | exact Ans.quietH (by assumption))))
              refine wpQuiet_nil ?_
              clear H
              intro _ H
              go_wp2_with (go_skip)
              refine ⟨⟨j + 1, hjt, by go_num, H⟩, ?measure2⟩
              case measure2 => simp [intOf]; omega
            · obtain rfl : j = t := by omega
              have z1 : j ≤ co := by omega
              have hMl := HM.out.2
              have hn1 : 0 + j ≤ maxLen := by unfold maxLen; omega
              have hn2 : (0 + j) * 40 ≤ 140737488355328 := by omega
              have hn3 : 0 + j + 1 ≤ maxLen := by unfold maxLen; omega
              have hn4 : (0 + j + 1) * 40 ≤ 140737488355328 := by omega
              have hn5 : 0 + j + 1 + (m - j) ≤ maxLen := by unfold maxLen; omega
              have hn6 : (0 + j + 1 + (m - j)) * 40 ≤ 140737488355328 := by omega
              have hl1 : (ofrL (M.take j)).length = j * 7 := by rw [ofrL_len, List.length_take, hMl]; omega
              have hl2 : (ofrL (M.drop j)).length = (m - j) * 7 := by rw [ofrL_len, List.length_drop, hMl]
              have R1 := Lib.hid (show ∀ l' w', OfT (.slice ao m co) m M ∈ l' → Heap W l' w' → Rd w' ao (ofrL (M.take j)) from fun l' w' mm h => by
                rw [← ofrL_take M j (by omega)]; exact Rd.take (h.rowRd mm) _)
              have R2 := Lib.hid (show ∀ l' w', OfT (.slice ao m co) m M ∈ l' → Heap W l' w' → Rd w' (cutA ao co j 7) (ofrL (M.drop j)) from fun l' w' mm h => by
                have h1 := Rd.cutA (h.rowRd mm) co j m 7 (by omega)
                rw [ofrL_drop M j (by omega), List.take_of_length_le (by rw [hl2]; exact Nat.le_refl _)] at h1
                exact h1)
              have HFIN := Lib.hid (HS2.out.trans HT.out.2.2)
              have HFL := Lib.hid (show (M.take j ++ [x] ++ M.drop j).length = 0 + j + 1 + (m - j) by simp [hMl]; omega)
              clear HS2 hMl
              by_cases hjm : j < m
              · obtain ⟨y, hy, hpy⟩ := HT.out.2.1 (by have := HM.out.2; omega)
                have e1 : decide ((j : Int) < (m : Int)) = true := decide_eq_true (by omega)
                have e2 : decide (j < m) = true := decide_eq_true hjm
                have e3 : decide (cmpO y x ≤ 0) = false := hpy
                have hyk := HMK.out y (List.mem_of_getElem? hy)
                have C := rcmp_ans (an := y.nu) (ad := y.de) (bn := x.nu) (bd := x.de) ⟨hyk.nu.1, hyk.nu.2, hyk.de.1, hyk.de.2⟩ ⟨HX.out.nu.1, HX.out.nu.2, HX.out.de.1, HX.out.de.2⟩
                change Ans _ _ (.int .i64 (cmpO y x)) at C
                generalize cmpO y x = q at *
                have hrat := ofrL_rat hy
                have hlen2 : j * 7 + 5 + 2 ≤ (ofrL M).length := by rw [ofrL_len]; have := HM.out.2; omega
                obtain ⟨g, c', e, _, _⟩ := RowT.sl (H.ok _ (List.mem_cons_of_mem _ List.mem_cons_self)) (by omega)
                simp only [Value.slice.injEq, true_and] at e
                obtain ⟨rfl, rfl⟩ := e
                have HQ := Lib.hid (fun (w' : World) (H' : Heap W (Cel px (ofrA x) 83 :: OfT (.slice (some ⟨g, 0, none⟩) m co) m M :: l) w') => H'.rowRd (List.mem_cons_of_mem _ List.mem_cons_self))
                clear hy hpy hyk
                go_wp2_with (go_skip)
                refine wp_region_H H (by kernel_rfl) (by kernel_rfl) ?_
                repeat (first | go_big_quiet_skip | (first | ((with_reducible apply wpQ_loadRdR0 row_rat); (· rfl); (· rfl); (· exact HQ.out); (· exact hlen2); (· decide); (· exact hrat); (simp only [Act.put, List.setIfInBounds_toArray, List.set_cons_zero, List.set_cons_succ])) | ((with_reducible apply wpQ_loadRH row_rat); (· rfl); (· rfl); (· (repeat (first | (with_reducible exact List.mem_cons_self) | with_reducible apply List.mem_cons_of_mem))); (· (simp only [ofrA_sz, Nat.reduceAdd, Nat.reduceLeDiff, Nat.le_refl]; done)); (· with_reducible exact ofr_rat ..); (simp only [Act.put, List.setIfInBounds_toArray, List.set_cons_zero, List.set_cons_succ]))) | go_big_quiet_step ((with_reducible first | exact AnsH.quiet (by assumption) | exact Ans.quietH (by assumption))))
                refine wpQuiet_nil ?_
                clear H
                intro _ H
                clear C HQ e1 e2 e3
                go_wp2_with (first
                  | ((with_reducible show wpList _ _ _ (_ :: _) _ _); (with_reducible apply wpl_appendA slO); (· rfl); (· rfl); (· rfl); (· rfl); (· exact H.nilRow 83 7); (· exact R1.out _ _ (List.mem_cons_of_mem _ (List.mem_cons_of_mem _ List.mem_cons_self)) (H.nilRow 83 7)); (· exact hl1); (· exact ofrL_ones _); (· exact hn1); (· exact hn2); (clear H; intro v1 _ _ H); (simp only [Act.put, List.setIfInBounds_toArray, List.set_cons_zero, List.set_cons_succ]))
                  | ((with_reducible show wpList _ _ _ (_ :: _) _ _); (with_reducible apply wpl_appendA slO); (· rfl); (· rfl); (· rfl); (· rfl); (· exact H.pull (.there .here)); (· exact H.celRd List.mem_cons_self); (· rfl); (· exact ofrA_ones _); (· exact hn3); (· exact hn4); (clear H; intro v2 _ _ H); (simp only [Act.put, List.setIfInBounds_toArray, List.set_cons_zero, List.set_cons_succ]))
                  | ((with_reducible show wpList _ _ _ (_ :: _) _ _); (with_reducible apply wpl_appendA slO); (· rfl); (· rfl); (· rfl); (· rfl); (· exact H); (· exact R2.out _ _ (List.mem_cons_of_mem _ (List.mem_cons_of_mem _ (List.mem_cons_of_mem _ List.mem_cons_self))) H); (· exact hl2); (· exact ofrL_ones _); (· exact hn5); (· exact hn6); (clear H; intro v3 _ _ H); (simp only [Act.put, List.setIfInBounds_toArray, List.set_cons_zero, List.set_cons_succ]))
                  | ((with_reducible show wpList _ _ _ (_ :: _) _ _); (with_reducible apply wpl_bsRH); (· rfl); (· rfl); (· exact bs_ofr); (· exact ofr_bs ..); (· exact H); (clear H; intro pq _ H); (simp only [Act.put, List.setIfInBounds_toArray, List.set_cons_zero, List.set_cons_succ]))
                  | ((with_reducible show wpList _ _ _ (_ :: _) _ _); (with_reducible apply wpl_cutTo slO); (· rfl); (· rfl); (· rfl); (· exact z1); (simp only [Act.put, List.setIfInBounds_toArray, List.set_cons_zero, List.set_cons_succ]))
                  | ((with_reducible show wpList _ _ _ (_ :: _) _ _); (with_reducible apply wpl_cutFrom4 slO); (· rfl); (· rfl); (· rfl); (· exact htm); (simp only [Act.put, List.setIfInBounds_toArray, List.set_cons_zero, List.set_cons_succ]))
                  | go_skip
                  | ((with_reducible show wpList _ _ _ (_ :: _) _ _); (with_reducible apply wpl_loadRH row_ofr); (· rfl); (· rfl); (· exact H); (· (repeat (first | (with_reducible exact List.mem_cons_self) | with_reducible apply List.mem_cons_of_mem))); (· (simp only [ofrA_sz, Nat.reduceAdd, Nat.reduceLeDiff, Nat.le_refl]; done)); (· with_reducible exact ofrA_all ..); (simp only [Act.put, List.setIfInBounds_toArray, List.set_cons_zero, List.set_cons_succ])))
                refine ⟨⟨k + 1, 0 + j + 1 + (m - j), _, by omega, by go_num, HFIN.out.symm, HFL.out, ?_⟩, ?measure⟩
                · rw [List.nil_append] at H
                  show Heap W (RowT 83 7 _ _ (ofrL (M.take j ++ [x] ++ M.drop j)) :: l) _
                  rw [ofrL_app, ofrL_app, ofrL_one]
                  exact ((H.drop (.there .here)).drop (.there .here)).drop (.there .here)
                case measure => simp [intOf]; omega
              · have e1 : decide ((j : Int) < (m : Int)) = false := decide_eq_false (by omega)
                have e2 : decide (j < m) = false := decide_eq_false hjm
                go_wp2_with (go_skip)
                refine wp_region_H H (by kernel_rfl) (by kernel_rfl) ?_
                repeat (first | go_big_quiet_skip | fail | go_big_quiet_step (fail))
                refine wpQuiet_nil ?_
                clear H
                intro _ H
                clear e1 e2
                go_wp2_with (first
                  | ((with_reducible show wpList _ _ _ (_ :: _) _ _); (with_reducible apply wpl_appendA slO); (· rfl); (· rfl); (· rfl); (· rfl); (· exact H.nilRow 83 7); (· exact R1.out _ _ (List.mem_cons_of_mem _ (List.mem_cons_of_mem _ List.mem_cons_self)) (H.nilRow 83 7)); (· exact hl1); (· exact ofrL_ones _); (· exact hn1); (· exact hn2); (clear H; intro v1 _ _ H); (simp only [Act.put, List.setIfInBounds_toArray, List.set_cons_zero, List.set_cons_succ]))
                  | ((with_reducible show wpList _ _ _ (_ :: _) _ _); (with_reducible apply wpl_appendA slO); (· rfl); (· rfl); (· rfl); (· rfl); (· exact H.pull (.there .here)); (· exact H.celRd List.mem_cons_self); (· rfl); (· exact ofrA_ones _); (· exact hn3); (· exact hn4); (clear H; intro v2 _ _ H); (simp only [Act.put, List.setIfInBounds_toArray, List.set_cons_zero, List.set_cons_succ]))
                  | ((with_reducible show wpList _ _ _ (_ :: _) _ _); (with_reducible apply wpl_appendA slO); (· rfl); (· rfl); (· rfl); (· rfl); (· exact H); (· exact R2.out _ _ (List.mem_cons_of_mem _ (List.mem_cons_of_mem _ (List.mem_cons_of_mem _ List.mem_cons_self))) H); (· exact hl2); (· exact ofrL_ones _); (· exact hn5); (· exact hn6); (clear H; intro v3 _ _ H); (simp only [Act.put, List.setIfInBounds_toArray, List.set_cons_zero, List.set_cons_succ]))
                  | ((with_reducible show wpList _ _ _ (_ :: _) _ _); (with_reducible apply wpl_bsRH); (· rfl); (· rfl); (· exact bs_ofr); (· exact ofr_bs ..); (· exact H); (clear H; intro pq _ H); (simp only [Act.put, List.setIfInBounds_toArray, List.set_cons_zero, List.set_cons_succ]))
                  | ((with_reducible show wpList _ _ _ (_ :: _) _ _); (with_reducible apply wpl_cutTo slO); (· rfl); (· rfl); (· rfl); (· exact z1); (simp only [Act.put, List.setIfInBounds_toArray, List.set_cons_zero, List.set_cons_succ]))
                  | ((with_reducible show wpList _ _ _ (_ :: _) _ _); (with_reducible apply wpl_cutFrom4 slO); (· rfl); (· rfl); (· rfl); (· exact htm); (simp only [Act.put, List.setIfInBounds_toArray, List.set_cons_zero, List.set_cons_succ]))
                  | go_skip
                  | ((with_reducible show wpList _ _ _ (_ :: _) _ _); (with_reducible apply wpl_loadRH row_ofr); (· rfl); (· rfl); (· exact H); (· (repeat (first | (with_reducible exact List.mem_cons_self) | with_reducible apply List.mem_cons_of_mem))); (· (simp only [ofrA_sz, Nat.reduceAdd, Nat.reduceLeDiff, Nat.le_refl]; done)); (· with_reducible exact ofrA_all ..); (simp only [Act.put, List.setIfInBounds_toArray, List.set_cons_zero, List.set_cons_succ])))
                refine ⟨⟨k + 1, 0 + j + 1 + (m - j), _, by omega, by go_num, HFIN.out.symm, HFL.out, ?_⟩, ?measure⟩
                · rw [List.nil_append] at H
                  show Heap W (RowT 83 7 _ _ (ofrL (M.take j ++ [x] ++ M.drop j)) :: l) _
                  rw [ofrL_app, ofrL_app, ofrL_one]
                  exact ((H.drop (.there .here)).drop (.there .here)).drop (.there .here)
                case measure => simp [intOf]; omega
        · have d2 : (x.bu != bu) = true := by simp [h2]
          have d2b : (x.bu == bu) = false := by simp [h2]
          have HS2 := Lib.hid (show bestO (L.take (k + 1)) se bu = M by rw [HS.out, if_neg (by unfold ofC; rw [d2b, Bool.and_false]; decide), ← HM.out.1])
          clear HS h1 h2
          go_wp2_with (first
            | ((with_reducible show wpList _ _ _ (_ :: _) _ _); (with_reducible apply wpl_allocRH row_ofr); (· rfl); (· exact H); (clear H; intro px _ H); (simp only [Act.put, List.setIfInBounds_toArray, List.set_cons_zero, List.set_cons_succ]))
            | go_skip
            | ((with_reducible show wpList _ _ _ (_ :: _) _ _); (with_reducible apply wpl_loadCH); (· exact cell_ofrs); (· rfl); (· rfl); (· exact H); (· exact List.mem_cons_of_mem _ m1); (· exact bkb_g0 ..); (simp only [Act.put, List.setIfInBounds_toArray, List.set_cons_zero, List.set_cons_succ]))
            | ((with_reducible show wpList _ _ _ (_ :: _) _ _); (with_reducible apply wpl_loadRdR row_ofr); (· rfl); (· rfl); (· exact H.rowRd (List.mem_cons_of_mem _ m2)); (· rfl); (· exact hlen1); (· decide); (· exact hrow); (simp only [Act.put, List.setIfInBounds_toArray, List.set_cons_zero, List.set_cons_succ]))
            | ((with_reducible show wpList _ _ _ (_ :: _) _ _); (with_reducible apply wpl_storeRH row_ofr); (· rfl); (· rfl); (· rfl); (· with_reducible exact ofr_cells ..); (· exact H); (· (repeat (first | (with_reducible exact List.mem_cons_self) | with_reducible apply List.mem_cons_of_mem))); (· (simp only [ofrA_sz, Nat.reduceAdd, Nat.reduceLeDiff, Nat.le_refl]; done)); (· with_reducible exact ofr_splice ..); (· (repeat (first | (with_reducible exact Repl.here) | with_reducible apply Repl.there))); (clear H; intro _ H); (simp only [Act.put, List.setIfInBounds_toArray, List.set_cons_zero, List.set_cons_succ]))
            | ((with_reducible show wpList _ _ _ (_ :: _) _ _); (with_reducible apply wpl_loadCH); (· first | exact cell_u64 | exact cell_party | exact cell_cur | exact cell_i64); (· rfl); (· rfl); (· exact H); (· (repeat (first | (with_reducible exact List.mem_cons_self) | with_reducible apply List.mem_cons_of_mem))); (· with_reducible first | exact ofr_g0 .. | exact ofr_g1 .. | exact ofr_g2 .. | exact ofr_g3 .. | exact ofr_g4 ..); (simp only [Act.put, List.setIfInBounds_toArray, List.set_cons_zero, List.set_cons_succ])))
          refine ⟨⟨k + 1, m, M, by omega, by go_num, HS2.out.symm, HM.out.2, H.tail⟩, ?measure⟩
          case measure => simp [intOf]; omega
      · have d1 : (x.se != se) = true := by simp [h1]
        have d1b : (x.se == se) = false := by simp [h1]
        have HS2 := Lib.hid (show bestO (L.take (k + 1)) se bu = M by rw [HS.out, if_neg (by unfold ofC; rw [d1b, Bool.false_and]; decide), ← HM.out.1])
        clear HS h1
        go_wp2_with (first
          | ((with_reducible show wpList _ _ _ (_ :: _) _ _); (with_reducible apply wpl_allocRH row_ofr); (· rfl); (· exact H); (clear H; intro px _ H); (simp only [Act.put, List.setIfInBounds_toArray, List.set_cons_zero, List.set_cons_succ]))
          | go_skip
          | ((with_reducible show wpList _ _ _ (_ :: _) _ _); (with_reducible apply wpl_loadCH); (· exact cell_ofrs); (· rfl); (· rfl); (· exact H); (· exact List.mem_cons_of_mem _ m1); (· exact bkb_g0 ..); (simp only [Act.put, List.setIfInBounds_toArray, List.set_cons_zero, List.set_cons_succ]))
          | ((with_reducible show wpList _ _ _ (_ :: _) _ _); (with_reducible apply wpl_loadRdR row_ofr); (· rfl); (· rfl); (· exact H.rowRd (List.mem_cons_of_mem _ m2)); (· rfl); (· exact hlen1); (· decide); (· exact hrow); (simp only [Act.put, List.setIfInBounds_toArray, List.set_cons_zero, List.set_cons_succ]))
          | ((with_reducible show wpList _ _ _ (_ :: _) _ _); (with_reducible apply wpl_storeRH row_ofr); (· rfl); (· rfl); (· rfl); (· with_reducible exact ofr_cells ..); (· exact H); (· (repeat (first | (with_reducible exact List.mem_cons_self) | with_reducible apply List.mem_cons_of_mem))); (· (simp only [ofrA_sz, Nat.reduceAdd, Nat.reduceLeDiff, Nat.le_refl]; done)); (· with_reducible exact ofr_splice ..); (· (repeat (first | (with_reducible exact Repl.here) | with_reducible apply Repl.there))); (clear H; intro _ H); (simp only [Act.put, List.setIfInBounds_toArray, List.set_cons_zero, List.set_cons_succ]))
          | ((with_reducible show wpList _ _ _ (_ :: _) _ _); (with_reducible apply wpl_loadCH); (· first | exact cell_u64 | exact cell_party | exact cell_cur | exact cell_i64); (· rfl); (· rfl); (· exact H); (· (repeat (first | (with_reducible exact List.mem_cons_self) | with_reducible apply List.mem_cons_of_mem))); (· with_reducible first | exact ofr_g0 .. | exact ofr_g1 .. | exact ofr_g2 .. | exact ofr_g3 .. | exact ofr_g4 ..); (simp only [Act.put, List.setIfInBounds_toArray, List.set_cons_zero, List.set_cons_succ])))
        refine ⟨⟨k + 1, m, M, by omega, by go_num, HS2.out.symm, HM.out.2, H.tail⟩, ?measure⟩
        case measure => simp [intOf]; omega
    · obtain rfl : k = n := by omega
      have HS := Lib.hid (show M = bestO L se bu by rw [HM.out.1, List.take_of_length_le (by rw [HL.out]; exact Nat.le_refl _)])
      go_wp2_with (first
        | go_skip
        | ((with_reducible show wpList _ _ _ (_ :: _) _ _); (with_reducible apply wpl_loadCH); (· exact cell_ofrs); (· rfl); (· rfl); (· exact H); (· exact List.mem_cons_of_mem _ m1); (· exact bkb_g0 ..); (simp only [Act.put, List.setIfInBounds_toArray, List.set_cons_zero, List.set_cons_succ])))
      go_ret
      rw [← HS.out]
      exact ⟨ao, m, co, rfl, HM.out.2, H⟩
end
end Go.Proofs.Ytacglcpjbepfnaa

/- countinghouselaw04.Same: a book, and the document's with the same offers. -/
namespace Go.Proofs.Ytacglcpjbepfnaa
open Go.RowKit
set_option linter.unusedSimpArgs false
set_option linter.unusedVariables false
set_option maxRecDepth 100000
section
variable {W w : World} {l : List Thing}
set_option maxHeartbeats 8000000
theorem same4_A {p rp n d : Nat} {v : Value} {b : Option Addr} {nx : Int} {L : List Ofr} (m1 : BkB p v nx ∈ l) (m2 : OfT v n L ∈ l) (m3 : RBk rp (.slice b n d) nx ∈ l) (m4 : OfT (.slice b n d) n L ∈ l) (h : 0 < nx) (hl : L.length = n) (hn : n ≤ 1000000) :
    AnsH W l 66 #[.pointer (some ⟨p, 0, none⟩), .pointer (some ⟨rp, 0, none⟩)] (.bool true) := by
  intro w H
  have HM := Lib.hid (And.intro m1 (And.intro m3 (And.intro m2 m4)))
  have AL := Lib.hid (fun (w' : World) (H' : Heap W l w') => all_H (p := p) m1 m2 h hl hn H')
  have SO := Lib.hid (fun (l' : List Thing) (a2 : Option Addr) (k2 : Nat) (x1 : OwO (.slice a2 n k2) n L ∈ l') (x2 : OfT (.slice b n d) n L ∈ l') => sameOffers_P (W := W) (l := l') (L := L) a2 b n k2 d hl hn (fun w' H' => H'.ownRd x1) (fun w' H' => H'.rowRd x2))
  have NX := Lib.hid (fun (l' : List Thing) (x1 : BkB p v nx ∈ l') => next_H (W := W) (l := l') (p := p) (v := v) (nx := nx) x1 h)
  have q1 : (nx == nx) = true := by simp
  clear m1 m2 m3 m4 h hl hn
  go_enter Try.func66, Try.ntmps66
  go_wp2_with (go_skip)
  refine wp_region_K0 [1] [0, 2, 3, 4, 5, 1, 6, 7, 8, 9, 10, 11, 12, 13, 14, 15, 16] H (by kernel_rfl) (by kernel_rfl) ?_
  iterate 5 (apply wpK_step; (· rfl); (· rfl); (· rfl); (· exact Nat.le_of_ble_eq_true rfl); (· intro l0 hs0 w0 H0; (first | go_big_quiet_skip | ((with_reducible apply wpQ_loadCH); (· exact cell_ofrs); (· rfl); (· rfl); (· exact hs0 _ HM.out.2.1); (· exact bkb_g0 ..); (simp only [Act.put, List.setIfInBounds_toArray, List.set_cons_zero, List.set_cons_succ])) | go_big_quiet_step (fail)); (refine wpQuiet_nil ?_); (simp only [Array.getD_eq_getD_getElem?, List.getElem?_toArray, List.getElem?_cons_succ, List.getElem?_cons_zero, Option.getD_some]; rfl)); (simp only [Act.put, List.setIfInBounds_toArray, List.set_cons_zero, List.set_cons_succ]))
  refine wpK_call (f := 52) (argl := [.pointer (some ⟨p, 0, none⟩)]) rfl rfl rfl Try.call52 rfl ?_
  intro w0 H0
  refine (AL.out _ H0).mono ?_
  clear H0
  rintro e w1 ⟨v3, rfl, H1⟩
  obtain ⟨a3, k3, rfl, _, _⟩ := OwnT.formO (H1.ok _ List.mem_cons_self)
  refine ⟨_, _, rfl, H1, _, fun t ht => List.mem_cons_of_mem _ ht, Keeps.refl _, ?_⟩
  clear H1
  (simp only [Act.put, List.setIfInBounds_toArray, List.set_cons_zero, List.set_cons_succ])
  (apply wpK_step; (· rfl); (· rfl); (· rfl); (· exact Nat.le_of_ble_eq_true rfl); (· intro l0 hs0 w0 H0; (first | go_big_quiet_skip | fail | go_big_quiet_step (exact (SO.out _ a3 k3 (hs0 _ (by (repeat (first | (with_reducible exact List.mem_cons_self) | with_reducible apply List.mem_cons_of_mem)))) (hs0 _ (List.mem_cons_of_mem _ HM.out.2.2.2))).quiet)); (refine wpQuiet_nil ?_); (simp only [Array.getD_eq_getD_getElem?, List.getElem?_toArray, List.getElem?_cons_succ, List.getElem?_cons_zero, Option.getD_some]; rfl)); (simp only [Act.put, List.setIfInBounds_toArray, List.set_cons_zero, List.set_cons_succ]))
  iterate 2 (apply wpK_step; (· rfl); (· rfl); (· rfl); (· exact Nat.le_of_ble_eq_true rfl); (· intro l0 hs0 w0 H0; (first | go_big_quiet_skip | fail | go_big_quiet_step (fail)); (refine wpQuiet_nil ?_); (simp only [Array.getD_eq_getD_getElem?, List.getElem?_toArray, List.getElem?_cons_succ, List.getElem?_cons_zero, Option.getD_some]; rfl)); (simp only [Act.put, List.setIfInBounds_toArray, List.set_cons_zero, List.set_cons_succ]))
  (apply wpK_step; (· rfl); (· rfl); (· rfl); (· exact Nat.le_of_ble_eq_true rfl); (· intro l0 hs0 w0 H0; (first | go_big_quiet_skip | fail | go_big_quiet_step (exact (NX.out _ (hs0 _ (List.mem_cons_of_mem _ HM.out.1))).quiet)); (refine wpQuiet_nil ?_); (simp only [Array.getD_eq_getD_getElem?, List.getElem?_toArray, List.getElem?_cons_succ, List.getElem?_cons_zero, Option.getD_some]; rfl)); (simp only [Act.put, List.setIfInBounds_toArray, List.set_cons_zero, List.set_cons_succ]))
  iterate 7 (apply wpK_step; (· rfl); (· rfl); (· rfl); (· exact Nat.le_of_ble_eq_true rfl); (· intro l0 hs0 w0 H0; (first | go_big_quiet_skip | ((with_reducible apply wpQ_loadCH); (· exact cell_u64); (· rfl); (· rfl); (· exact hs0 _ (List.mem_cons_of_mem _ HM.out.2.1)); (· exact bkb_g1 ..); (simp only [Act.put, List.setIfInBounds_toArray, List.set_cons_zero, List.set_cons_succ])) | go_big_quiet_step (fail)); (refine wpQuiet_nil ?_); (simp only [Array.getD_eq_getD_getElem?, List.getElem?_toArray, List.getElem?_cons_succ, List.getElem?_cons_zero, Option.getD_some]; rfl)); (simp only [Act.put, List.setIfInBounds_toArray, List.set_cons_zero, List.set_cons_succ]))
  (refine wpK_nil ?_; clear H; intro _ H)
  go_wp2_with (go_skip)
  go_ret
  exact ⟨rfl, H.tail⟩
end
end Go.Proofs.Ytacglcpjbepfnaa

/- A book's pages of api.Offer: what write, writeBehind, stands and the book's method do. -/
namespace Go.Proofs.Ytacglcpjbepfnaa
open Go.RowKit
set_option linter.unusedSimpArgs false
set_option linter.unusedVariables false
theorem cell_slOf : CellTy 76 := ⟨⟨_, Try.underlying76, rfl⟩, by kernel_rfl⟩
structure WLoopOf (W : World) (l : List Thing) (pb : Nat) (a : Option Addr) (n c lo hi : Nat) (m b v : Array Value) (P : Nat → List Value → Prop) (i : Value) (wr : World) : Prop where
  out : ∃ (k : Nat) (xs : List Value), i = .int .i64 (k : Int) ∧ lo ≤ k ∧ k ≤ hi ∧ P k xs ∧ Heap W (OwnT 83 7 (.slice a c c) c xs :: Cel pb (browR (.slice a n c) m b) 161 :: l) wr
section
variable {W w : World} {l : List Thing} {ops : Array Oper} {rest : List Oper} {a : Act}
theorem wpQ_neqOf {dst : Option Tmp} {ty : TypeId} {pos : String} {after : Array Edge} {guard : Option (Nat × Bool)} {p q : Operand} {m : Array Value} {K : Act → Prop} {H : Heap W l w} (hw : Region.wanted ⟨dst, .binOp .neq 83 p q 83, ty, pos, after, guard⟩ (yielded ops a.tmps) = true) (hp : a.eval p = .agg m) (hq : a.eval q = .agg m) (hr : ∀ w, (binOp .neq 83 (.agg m) (.agg m)).run Try.prog w = .ok (.bool false) w)
    (h : wpQuiet Try.prog ops (fun w' => ∃ d, w' = H.any d) K rest (a.put dst (.bool false))) : wpQuiet Try.prog ops (fun w' => ∃ d, w' = H.any d) K (⟨dst, .binOp .neq 83 p q 83, ty, pos, after, guard⟩ :: rest) a := by
  have hg : (Try.prog.eqGuardType Try.prog.depth 83) = false := by kernel_rfl
  refine BigFrame.wpQuiet_want hw fun K hK => ⟨_, ?_, hK _ h⟩
  rintro _ ⟨d, rfl⟩
  unfold Oper.quietAt execOp
  simp only [hp, hq, Sem.run_bind, hr]
  simp [eqGuard, hg, hr]
  exact ⟨rfl, rfl⟩
end
section
variable {W w : World} {l : List Thing}
set_option maxRecDepth 100000
set_option maxHeartbeats 4000000
theorem write_Of (a : Option Addr) (n c : Nat) (m b : Array Value) (hm : GoodR 7 83 m) (hb : GoodR 7 83 b) (H : Heap W (FullT 83 7 a n c (fun _ => True) :: l) w) :
    Calls Try.prog 189 #[.agg (browR (.slice a n c) m b)] w fun e w' => e = .returned (.tuple #[]) ∧ Heap W (FullT 83 7 a n c (MarksR 7 m 0 n) :: l) w' := by
  obtain ⟨xs0, -, hn, hc, hl, ha, H'⟩ := H.openFull
  clear H
  have H := H'
  clear H'
  have hcm := hc
  unfold maxLen at hcm
  have HC := Lib.hid hc
  clear ha hc hl
  have hb1 : 1 + 7 ≤ (browR (.slice a n c) m b).size := by rw [browR_sz hm.sz hb.sz]; omega
  have hb2 : 1 + 7 + 7 ≤ (browR (.slice a n c) m b).size := by rw [browR_sz hm.sz hb.sz]; omega
  have he1 : (browR (.slice a n c) m b).extract 1 (1 + 7) = m := browR_g1 hm.sz
  have he2 : (browR (.slice a n c) m b).extract (1 + 7) (1 + 7 + 7) = b := browR_g2 hm.sz hb.sz
  go_enter Try.func189, Try.ntmps189
  go_wp2_with (first | go_skip | ((with_reducible show wpList _ _ _ (_ :: _) _ _); (with_reducible apply wpl_boxRH); (· rfl); (· rfl); (· exact H); (clear H; intro pb _ H); (simp only [Act.put, List.setIfInBounds_toArray, List.set_cons_zero, List.set_cons_succ])))
  have H0 := H.perm (.swap _ _ _)
  clear H
  go_loopw [2] (fun i wr => WLoopOf W l pb a n c 0 n m b m (fun k xs => xs.length = c * 7 ∧ MarksR 7 m 0 k xs) i wr) (fun i _ => n - (intOf i).toNat)
  case atStart => exact ⟨0, xs0, rfl, by omega, by omega, ⟨by have := OwnT.len (H0.ok _ List.mem_cons_self); omega, fun i h1 h2 => by omega⟩, H0⟩
  case round =>
    obtain ⟨k, xs, rfl, -, hk, ⟨hlen, hmk⟩, H'⟩ := hrel.out
    clear H0 hrel
    have H := H'
    clear H'
    by_cases hlt : k < n
    · obtain ⟨g, o, c', e, _, _⟩ := OwnT.form (H.ok _ List.mem_cons_self) (by omega)
      simp only [Value.slice.injEq, true_and] at e
      obtain ⟨rfl, rfl⟩ := e
      have hkl : k * 7 + 7 ≤ xs.length := by have := mul_slot (k := k) (c := c) (K := 7) (by omega); omega
      have HM := Lib.hid (And.intro (by rw [bkPut_len hm.sz hkl]; exact hlen : (bkPut xs k 7 m).length = c * 7) (hmk.step hm.sz hkl))
      clear hmk hlen
      go_wp2_with (first
        | go_skip
        | ((with_reducible show wpList _ _ _ (_ :: _) _ _); (with_reducible apply wpl_loadCH); (· exact cell_slOf); (· rfl); (· rfl); (· exact H); (· (repeat (first | (with_reducible exact List.mem_cons_self) | with_reducible apply List.mem_cons_of_mem))); (· exact browR_g0 ..); (simp only [Act.put, List.setIfInBounds_toArray, List.set_cons_zero, List.set_cons_succ]))
        | ((with_reducible show wpList _ _ _ (_ :: _) _ _); (with_reducible apply wpl_loadRH row_ofr); (· rfl); (· rfl); (· exact H); (· (repeat (first | (with_reducible exact List.mem_cons_self) | with_reducible apply List.mem_cons_of_mem))); (· exact hb1); (· exact he1); (simp only [Act.put, List.setIfInBounds_toArray, List.set_cons_zero, List.set_cons_succ]))
        | ((with_reducible show wpList _ _ _ (_ :: _) _ _); (with_reducible apply wpl_storeOwnR row_ofr); (· rfl); (· rfl); (· rfl); (· first | exact hm.cells | exact hb.cells); (· exact H); (· (repeat (first | (with_reducible exact List.mem_cons_self) | with_reducible apply List.mem_cons_of_mem))); (· rfl); (· exact hkl); (· rfl); (· (repeat (first | (with_reducible exact Repl.here) | with_reducible apply Repl.there))); (clear H; intro _ H); (simp only [Act.put, List.setIfInBounds_toArray, List.set_cons_zero, List.set_cons_succ])))
      refine ⟨?_, ?_⟩
      · exact ⟨⟨k + 1, _, by go_num, by omega, by omega, ⟨HM.out.1, HM.out.2⟩, H⟩⟩
      · simp [intOf]; omega
    · obtain rfl : n = k := by omega
      have HM := Lib.hid hmk
      clear hmk
      go_wp2_with (first
        | go_skip
        | ((with_reducible show wpList _ _ _ (_ :: _) _ _); (with_reducible apply wpl_loadCH); (· exact cell_slOf); (· rfl); (· rfl); (· exact H); (· (repeat (first | (with_reducible exact List.mem_cons_self) | with_reducible apply List.mem_cons_of_mem))); (· exact browR_g0 ..); (simp only [Act.put, List.setIfInBounds_toArray, List.set_cons_zero, List.set_cons_succ])))
      go_end0
      exact ⟨rfl, (H.drop (.there .here)).shutFull hn HC.out HM.out⟩
theorem behind_Of (a : Option Addr) (n c : Nat) (m b : Array Value) (hm : GoodR 7 83 m) (hb : GoodR 7 83 b) (H : Heap W (FullT 83 7 a n c (MarksR 7 m 0 n) :: l) w) :
    Calls Try.prog 190 #[.agg (browR (.slice a n c) m b)] w fun e w' => e = .returned (.tuple #[]) ∧ Heap W (FullT 83 7 a n c (fun xs => MarksR 7 m 0 n xs ∧ MarksR 7 b n c xs) :: l) w' := by
  obtain ⟨xs0, hm0, hn, hc, hl, ha, H'⟩ := H.openFull
  clear H
  have H := H'
  clear H'
  have hsl := fun wx => run_cutTo slO a n c c .i64 (Nat.le_refl _) wx
  have hcm := hc
  unfold maxLen at hcm
  have HC := Lib.hid hc
  have HM0 := Lib.hid hm0
  clear ha hc hl hm0
  have hb1 : 1 + 7 ≤ (browR (.slice a n c) m b).size := by rw [browR_sz hm.sz hb.sz]; omega
  have hb2 : 1 + 7 + 7 ≤ (browR (.slice a n c) m b).size := by rw [browR_sz hm.sz hb.sz]; omega
  have he1 : (browR (.slice a n c) m b).extract 1 (1 + 7) = m := browR_g1 hm.sz
  have he2 : (browR (.slice a n c) m b).extract (1 + 7) (1 + 7 + 7) = b := browR_g2 hm.sz hb.sz
  go_enter Try.func190, Try.ntmps190
  go_wp2_with (first
    | go_skip
    | ((with_reducible show wpList _ _ _ (_ :: _) _ _); (with_reducible apply wpl_boxRH); (· rfl); (· rfl); (· exact H); (clear H; intro pb _ H); (simp only [Act.put, List.setIfInBounds_toArray, List.set_cons_zero, List.set_cons_succ]))
    | ((with_reducible show wpList _ _ _ (_ :: _) _ _); (with_reducible apply wpl_loadCH); (· exact cell_slOf); (· rfl); (· rfl); (· exact H); (· (repeat (first | (with_reducible exact List.mem_cons_self) | with_reducible apply List.mem_cons_of_mem))); (· exact browR_g0 ..); (simp only [Act.put, List.setIfInBounds_toArray, List.set_cons_zero, List.set_cons_succ])))
  clear hsl
  have H0 := H.perm (.swap _ _ _)
  clear H
  go_loopw [3] (fun i wr => WLoopOf W l pb a n c n c m b b (fun k xs => xs.length = c * 7 ∧ MarksR 7 m 0 n xs ∧ MarksR 7 b n k xs) i wr) (fun i _ => c - (intOf i).toNat)
  case atStart => exact ⟨n, xs0, rfl, by omega, hn, ⟨by have := OwnT.len (H0.ok _ List.mem_cons_self); omega, HM0.out, fun i h1 h2 => by omega⟩, H0⟩
  case round =>
    obtain ⟨k, xs, rfl, hnk, hk, ⟨hlen, hm1, hmk⟩, H'⟩ := hrel.out
    clear H0 hrel HM0
    have H := H'
    clear H'
    by_cases hlt : k < c
    · obtain ⟨g, o, c', e, _, _⟩ := OwnT.form (H.ok _ List.mem_cons_self) (by omega)
      simp only [Value.slice.injEq, true_and] at e
      obtain ⟨rfl, rfl⟩ := e
      have hkl : k * 7 + 7 ≤ xs.length := by have := mul_slot (k := k) (c := c) (K := 7) (by omega); omega
      have HM := Lib.hid (And.intro (by rw [bkPut_len hb.sz hkl]; exact hlen : (bkPut xs k 7 b).length = c * 7) (And.intro (hm1.off hb.sz hkl hnk) (hmk.step hb.sz hkl)))
      clear hmk hlen hm1
      go_wp2_with (first
        | go_skip
        | ((with_reducible show wpList _ _ _ (_ :: _) _ _); (with_reducible apply wpl_loadRH row_ofr); (· rfl); (· rfl); (· exact H); (· (repeat (first | (with_reducible exact List.mem_cons_self) | with_reducible apply List.mem_cons_of_mem))); (· exact hb2); (· exact he2); (simp only [Act.put, List.setIfInBounds_toArray, List.set_cons_zero, List.set_cons_succ]))
        | ((with_reducible show wpList _ _ _ (_ :: _) _ _); (with_reducible apply wpl_storeOwnR row_ofr); (· rfl); (· rfl); (· rfl); (· first | exact hm.cells | exact hb.cells); (· exact H); (· (repeat (first | (with_reducible exact List.mem_cons_self) | with_reducible apply List.mem_cons_of_mem))); (· rfl); (· exact hkl); (· rfl); (· (repeat (first | (with_reducible exact Repl.here) | with_reducible apply Repl.there))); (clear H; intro _ H); (simp only [Act.put, List.setIfInBounds_toArray, List.set_cons_zero, List.set_cons_succ])))
      refine ⟨?_, ?_⟩
      · exact ⟨⟨k + 1, _, by go_num, by omega, by omega, ⟨HM.out.1, HM.out.2⟩, H⟩⟩
      · simp [intOf]; omega
    · obtain rfl : c = k := by omega
      have HM := Lib.hid (And.intro hm1 hmk)
      clear hmk hm1
      go_wp2_with (go_skip)
      go_end0
      exact ⟨rfl, (H.drop (.there .here)).shutFull hn HC.out HM.out⟩
structure SLoopOf (W : World) (l : List Thing) (c : Nat) (i : Value) (wr : World) : Prop where
  out : ∃ k : Nat, i = .int .i64 (k : Int) ∧ k ≤ c ∧ Heap W l wr
theorem stands_Of (a : Option Addr) (n c : Nat) (m b : Array Value) (hm : GoodR 7 83 m) (hb : GoodR 7 83 b) (H : Heap W (FullT 83 7 a n c (fun xs => MarksR 7 m 0 n xs ∧ MarksR 7 b n c xs) :: l) w) :
    Calls Try.prog 188 #[.agg (browR (.slice a n c) m b)] w fun e w' => e = .returned (.bool true) ∧ Heap W (FullT 83 7 a n c (fun xs => MarksR 7 m 0 n xs ∧ MarksR 7 b n c xs) :: l) w' := by
  obtain ⟨xs, hm0, hn, hc, hl, ha, H'⟩ := H.openFull
  clear H
  have H := H'
  clear H'
  have hsl := fun wx => run_cutTo slO a n c c .i64 (Nat.le_refl _) wx
  have hcm := hc
  unfold maxLen at hcm
  have HC := Lib.hid hc
  have HM := Lib.hid hm0
  have HL := Lib.hid hl
  clear ha hc hl hm0
  have hb1 : 1 + 7 ≤ (browR (.slice a n c) m b).size := by rw [browR_sz hm.sz hb.sz]; omega
  have hb2 : 1 + 7 + 7 ≤ (browR (.slice a n c) m b).size := by rw [browR_sz hm.sz hb.sz]; omega
  have he1 : (browR (.slice a n c) m b).extract 1 (1 + 7) = m := browR_g1 hm.sz
  have he2 : (browR (.slice a n c) m b).extract (1 + 7) (1 + 7 + 7) = b := browR_g2 hm.sz hb.sz
  go_enter Try.func188, Try.ntmps188
  go_wp2_with (first
    | go_skip
    | ((with_reducible show wpList _ _ _ (_ :: _) _ _); (with_reducible apply wpl_boxRH); (· rfl); (· rfl); (· exact H); (clear H; intro pb _ H); (simp only [Act.put, List.setIfInBounds_toArray, List.set_cons_zero, List.set_cons_succ]))
    | ((with_reducible show wpList _ _ _ (_ :: _) _ _); (with_reducible apply wpl_loadCH); (· exact cell_slOf); (· rfl); (· rfl); (· exact H); (· (repeat (first | (with_reducible exact List.mem_cons_self) | with_reducible apply List.mem_cons_of_mem))); (· exact browR_g0 ..); (simp only [Act.put, List.setIfInBounds_toArray, List.set_cons_zero, List.set_cons_succ])))
  clear hsl
  have H0 := H
  clear H
  go_loopw [4] (fun i wr => SLoopOf W (Cel pb (browR (.slice a n c) m b) 161 :: OwnT 83 7 (.slice a c c) c xs :: l) c i wr) (fun i _ => c - (intOf i).toNat)
  case atStart => exact ⟨0, rfl, by omega, H0⟩
  case round =>
    obtain ⟨k, rfl, hk, H'⟩ := hrel.out
    clear H0 hrel
    have H := H'
    clear H'
    by_cases hlt : k < c
    · obtain ⟨g, o, c', e, _, _⟩ := OwnT.form (H.ok _ (List.mem_cons_of_mem _ List.mem_cons_self)) (by omega)
      simp only [Value.slice.injEq, true_and] at e
      obtain ⟨rfl, rfl⟩ := e
      have hkl : k * 7 + 7 ≤ xs.length := by have := mul_slot (k := k) (c := c) (K := 7) (by omega); rw [HL.out]; omega
      by_cases hkn : k < n
      · have hx := HM.out.1 k (by omega) hkn
        have HX := Lib.hid (show ∀ w', Heap W (Cel pb (browR (.slice (some ⟨g, o, none⟩) n c) m b) 161 :: OwnT 83 7 (.slice (some ⟨g, o, none⟩) c c) c xs :: l) w' → Rd w' (some ⟨g, o, none⟩) xs from fun w' h => h.ownRd (List.mem_cons_of_mem _ List.mem_cons_self))
        have hxa : ((xs.drop (k * 7)).take 7).toArray = m := by rw [hx]
        clear hx
        have hd1 : decide ((k : Int) < n) = true := by simp; omega
        have hd3 : decide (n ≤ k) = false := by simp; omega
        have hd4 : decide (k < n) = true := by simp; omega
        have hq := hm.neq
        go_wp2_with (go_skip)
        refine wp_region_H H (by kernel_rfl) (by kernel_rfl) ?_
        repeat (first | go_big_quiet_skip | (first | ((with_reducible apply wpQ_loadCH); (· exact cell_slOf); (· rfl); (· rfl); (· (repeat (first | (with_reducible exact List.mem_cons_self) | with_reducible apply List.mem_cons_of_mem))); (· exact browR_g0 ..); (simp only [Act.put, List.setIfInBounds_toArray, List.set_cons_zero, List.set_cons_succ])) | ((with_reducible apply wpQ_loadRH row_ofr); (· rfl); (· rfl); (· (repeat (first | (with_reducible exact List.mem_cons_self) | with_reducible apply List.mem_cons_of_mem))); (· exact hb1); (· exact he1); (simp only [Act.put, List.setIfInBounds_toArray, List.set_cons_zero, List.set_cons_succ])) | ((with_reducible apply wpQ_loadRH row_ofr); (· rfl); (· rfl); (· (repeat (first | (with_reducible exact List.mem_cons_self) | with_reducible apply List.mem_cons_of_mem))); (· exact hb2); (· exact he2); (simp only [Act.put, List.setIfInBounds_toArray, List.set_cons_zero, List.set_cons_succ])) | ((with_reducible apply wpQ_loadRdR row_ofr); (· rfl); (· rfl); (· exact HX.out); (· rfl); (· exact hkl); (· decide); (· exact hxa); (simp only [Act.put, List.setIfInBounds_toArray, List.set_cons_zero, List.set_cons_succ])) | ((with_reducible apply wpQ_neqOf); (· rfl); (· rfl); (· rfl); (· exact hq); (simp only [Act.put, List.setIfInBounds_toArray, List.set_cons_zero, List.set_cons_succ]))) | go_big_quiet_step (fail))
        refine wpQuiet_nil ?_
        clear H
        intro _ H
        go_wp2_with (go_skip)
        refine ⟨?_, ?_⟩
        · exact ⟨⟨k + 1, by go_num, by omega, H⟩⟩
        · simp [intOf]; omega
      · have hx := HM.out.2 k (by omega) hlt
        have HX := Lib.hid (show ∀ w', Heap W (Cel pb (browR (.slice (some ⟨g, o, none⟩) n c) m b) 161 :: OwnT 83 7 (.slice (some ⟨g, o, none⟩) c c) c xs :: l) w' → Rd w' (some ⟨g, o, none⟩) xs from fun w' h => h.ownRd (List.mem_cons_of_mem _ List.mem_cons_self))
        have hxa : ((xs.drop (k * 7)).take 7).toArray = b := by rw [hx]
        clear hx
        have hd1 : decide ((k : Int) < n) = false := by simp; omega
        have hd3 : decide (n ≤ k) = true := by simp; omega
        have hd4 : decide (k < n) = false := by simp; omega
        have hq := hb.neq
        go_wp2_with (go_skip)
        refine wp_region_H H (by kernel_rfl) (by kernel_rfl) ?_
        repeat (first | go_big_quiet_skip | (first | ((with_reducible apply wpQ_loadCH); (· exact cell_slOf); (· rfl); (· rfl); (· (repeat (first | (with_reducible exact List.mem_cons_self) | with_reducible apply List.mem_cons_of_mem))); (· exact browR_g0 ..); (simp only [Act.put, List.setIfInBounds_toArray, List.set_cons_zero, List.set_cons_succ])) | ((with_reducible apply wpQ_loadRH row_ofr); (· rfl); (· rfl); (· (repeat (first | (with_reducible exact List.mem_cons_self) | with_reducible apply List.mem_cons_of_mem))); (· exact hb1); (· exact he1); (simp only [Act.put, List.setIfInBounds_toArray, List.set_cons_zero, List.set_cons_succ])) | ((with_reducible apply wpQ_loadRH row_ofr); (· rfl); (· rfl); (· (repeat (first | (with_reducible exact List.mem_cons_self) | with_reducible apply List.mem_cons_of_mem))); (· exact hb2); (· exact he2); (simp only [Act.put, List.setIfInBounds_toArray, List.set_cons_zero, List.set_cons_succ])) | ((with_reducible apply wpQ_loadRdR row_ofr); (· rfl); (· rfl); (· exact HX.out); (· rfl); (· exact hkl); (· decide); (· exact hxa); (simp only [Act.put, List.setIfInBounds_toArray, List.set_cons_zero, List.set_cons_succ])) | ((with_reducible apply wpQ_neqOf); (· rfl); (· rfl); (· rfl); (· exact hq); (simp only [Act.put, List.setIfInBounds_toArray, List.set_cons_zero, List.set_cons_succ]))) | go_big_quiet_step (fail))
        refine wpQuiet_nil ?_
        clear H
        intro _ H
        go_wp2_with (go_skip)
        refine ⟨?_, ?_⟩
        · exact ⟨⟨k + 1, by go_num, by omega, H⟩⟩
        · simp [intOf]; omega
    · obtain rfl : c = k := by omega
      go_wp2_with (go_skip)
      go_ret
      exact ⟨rfl, H.tail.shutFull hn HC.out HM.out⟩
/-- A page of such a list. -/
def pageOf (a : Option Addr) (n c : Nat) (m b : Array Value) : PageT := ⟨161, .agg (browR (.slice a n c) m b), FullT 83 7 a n c (fun _ => True), FullT 83 7 a n c (MarksR 7 m 0 n), FullT 83 7 a n c (fun xs => MarksR 7 m 0 n xs ∧ MarksR 7 b n c xs)⟩
theorem pageOf_ok (a : Option Addr) (n c : Nat) (m b : Array Value) (hm : GoodR 7 83 m) (hb : GoodR 7 83 b) : PageOk (pageOf a n c m b) :=
  ⟨⟨189, ⟨fun _ _ => by kernel_rfl, Try.call189⟩, fun W l w H => write_Of a n c m b hm hb H⟩,
   ⟨190, ⟨fun _ _ => by kernel_rfl, Try.call190⟩, fun W l w H => behind_Of a n c m b hm hb H⟩,
   ⟨188, ⟨fun _ _ => by kernel_rfl, Try.call188⟩, fun W l w H => stands_Of a n c m b hm hb H⟩⟩
theorem lay_Of (kb : Nat) (ps : List PageT) (a : Option Addr) (n c : Nat) {xs : List Value} (hp : ps.length < 120) (B : Book W (OwnT 83 7 (.slice a n c) n xs :: l) kb ps w) :
    Calls Try.prog 76 #[.pointer (some ⟨kb, 0, none⟩), .slice a n c] w fun e w' => e = .returned (.tuple #[]) ∧ ∃ p, Book W l kb (ps ++ [p]) w' := by
  obtain ⟨ba, bc, H, hok⟩ := B
  obtain ⟨N, hN⟩ : ∃ N, ps.length = N := ⟨_, rfl⟩
  rw [hN] at H
  have hn1 : N + 1 ≤ maxLen := by unfold maxLen; omega
  have hn2 : (N + 1) * 16 ≤ 140737488355328 := by omega
  have hNB := number_H (W := W) (l := BkT kb (.slice ba N bc) :: PgsT (.slice ba N bc) N (ps.map PageT.v) :: (ps.map PageT.t0 ++ OwnT 83 7 (.slice a n c) n xs :: l)) kb ba N bc (by omega) List.mem_cons_self
  have HO := Lib.hid (And.intro hok hN)
  have hN120 : N < 120 := by omega
  clear hok hN hp
  go_enter Try.func76, Try.ntmps76
  go_wp2_with (first
    | go_skip
    | ((with_reducible refine AnsH.call (by assumption) H ?_); clear H; intro _ H)
    | ((with_reducible show wpList _ _ _ (_ :: _) _ _); (with_reducible apply wpl_loadCH); (· exact cell_pages); (· rfl); (· rfl); (· exact H); (· (repeat (first | (with_reducible exact List.mem_cons_self) | with_reducible apply List.mem_cons_of_mem))); (· exact bookC_g _); (simp only [Act.put, List.setIfInBounds_toArray, List.set_cons_zero, List.set_cons_succ]))
    | ((with_reducible show wpList _ _ _ (_ :: _) _ _); (with_reducible apply wpl_bsOnes _ [(pageOf a n c (oN ((N : Int) + 1)) (oM ((N : Int) + 1))).v]); (· rfl); (· rfl); (· rfl); (· decide); (· decide); (· intro v hv; rw [List.mem_singleton.1 hv]; rfl); (· exact bs_page); (· rfl); (· exact H); (clear H; intro pk _ H); (simp only [Act.put, List.setIfInBounds_toArray, List.set_cons_zero, List.set_cons_succ]))
    | ((with_reducible show wpList _ _ _ (_ :: _) _ _); (with_reducible apply wpl_appendH slPage); (· rfl); (· rfl); (· rfl); (· rfl); (· exact H.top2 (.there (.there .here)) .here); (· exact H.celRd List.mem_cons_self); (· rfl); (· intro u hu; rw [List.mem_singleton.1 hu]; rfl); (· exact hn1); (· exact hn2); (clear H; intro v2 _ H; obtain ⟨a2, c2, rfl, _, _⟩ := RowT.form0 (H.ok _ List.mem_cons_self)); (simp only [Act.put, List.setIfInBounds_toArray, List.set_cons_zero, List.set_cons_succ]))
    | ((with_reducible show wpList _ _ _ (_ :: _) _ _); (with_reducible apply wpl_storeSH); (· exact cell_pages); (· rfl); (· rfl); (· rfl); (· exact H); (· (repeat (first | (with_reducible exact List.mem_cons_self) | with_reducible apply List.mem_cons_of_mem))); (· exact Nat.le_refl 1); (· rfl); (· (repeat (first | (with_reducible exact Repl.here) | with_reducible apply Repl.there))); (clear H; intro _ H); (simp only [Act.put, List.setIfInBounds_toArray, List.set_cons_zero, List.set_cons_succ])))
  go_end0
  refine ⟨rfl, pageOf a n c (oN ((N : Int) + 1)) (oM ((N : Int) + 1)), a2, c2, ?_, fun p hp => ?_⟩
  · rw [List.length_append, List.length_singleton, HO.out.2, List.map_append, List.map_append]
    have H2 := H.drop (.there .here)
    have p1 : (RowT 141 1 (.slice a2 (N + 1) c2) (N + 1) (ps.map PageT.v ++ [(pageOf a n c (oN ((N : Int) + 1)) (oM ((N : Int) + 1))).v]) :: BkT kb (.slice a2 (N + 1) c2) :: (ps.map PageT.t0 ++ OwnT 83 7 (.slice a n c) n xs :: l)).Perm
        (OwnT 83 7 (.slice a n c) n xs :: BkT kb (.slice a2 (N + 1) c2) :: PgsT (.slice a2 (N + 1) c2) (N + 1) (ps.map PageT.v ++ [(pageOf a n c (oN ((N : Int) + 1)) (oM ((N : Int) + 1))).v]) :: (ps.map PageT.t0 ++ l)) :=
      (List.Perm.swap _ _ _).trans (((List.Perm.cons _ (List.Perm.cons _ List.perm_middle)).trans (List.Perm.cons _ (.swap _ _ _))).trans (.swap _ _ _))
    have H3 := (H2.perm p1).toFull
    refine H3.perm ?_
    exact (List.Perm.swap _ _ _).trans (List.Perm.cons _ ((List.Perm.swap _ _ _).trans (List.Perm.cons _ (by rw [List.append_assoc]; exact List.perm_middle.symm))))
  · rcases List.mem_append.1 hp with h | h
    · exact HO.out.1 p h
    · rw [List.mem_singleton.1 h]; exact pageOf_ok _ _ _ _ _ (oN_good _) (oM_good _)
end
end Go.Proofs.Ytacglcpjbepfnaa

/- How an argument's reading gives what a walk asks of it. -/
namespace Go.Proofs.Ytacglcpjbepfnaa
open Go.ChangeShapes Go.WideShapes Go.ChangeAt Go.RowKit

theorem Rd.ofCells {w : World} {x : Addr} {xs : List Value} (h : ∀ i, (hi : i < xs.length) → w.cell? (x.add i) = some xs[i]) : Rd w (some x) xs := by
  obtain ⟨b, o, sp⟩ := x
  intro i hi
  have h0 := h 0 (by omega)
  have hsp : sp = none := by
    rcases sp with _ | s
    · rfl
    · simp only [Addr.add, if_true, World.cell?] at h0
      split at h0 <;> simp at h0
  subst hsp
  exact ⟨b, o, rfl, by rw [← addr_add]; exact h i hi⟩

end Go.Proofs.Ytacglcpjbepfnaa

/- Arguments of whatever type, opened: a value's cells are those of its parts, one behind the other; a slice's elements likewise, however deep. -/
namespace Go.Proofs.Ytacglcpjbepfnaa
open Go.ChangeShapes Go.WideShapes Go.ChangeAt Go.RowKit
set_option linter.unusedVariables false
set_option linter.unusedSimpArgs false

/-- The parts of fields, one behind the other; none, if they do not lie so. -/
def flatFs (P : Program) (g : TypeId → Option (List TypeId)) : Nat → List Field → Option (List TypeId)
  | _, [] => some []
  | o, f :: fs => (g f.type).bind fun ts => if f.offset = o ∧ ts.length = P.cellsOf f.type then (flatFs P g (o + ts.length) fs).map (ts ++ ·) else none
def repFlat (ts : List TypeId) : Nat → List TypeId
  | 0 => []
  | n + 1 => ts ++ repFlat ts n
/-- The one-cell parts of a type. -/
def flat (P : Program) : Nat → TypeId → Option (List TypeId)
  | 0, _ => none
  | d + 1, t => match P.underlying t with
    | some (.int _) => some [t]
    | some .bool => some [t]
    | some (.slice _) => some [t]
    | some (.struct fs) => (flatFs P (flat P d) 0 fs.toList).bind fun ts => if ts.length = P.cellsOf t then some ts else none
    | some (.array n e) => (flat P d e).bind fun ts => if ts.length = P.cellsOf e ∧ n * ts.length = P.cellsOf t then some (repFlat ts n) else none
    | _ => none
section
variable {H : Type} {enc : TypeId × Value → H} {P : Program} {w : World} {base : Nat} {spare : Nat → Bool} {held : Bool}
/-- What a cell of such a part holds. -/
def PartOk (enc : TypeId × Value → H) (P : Program) (w : World) (base : Nat) (spare : Nat → Bool) (held : Bool) (u : TypeId) (v : Value) : Prop := ∃ m y, DataW.trod enc P w base spare held m u [v] = some y
theorem flatFs_spec {g : TypeId → Option (List TypeId)}
    (hg : ∀ (t : TypeId) (ts : List TypeId), g t = some ts → ∀ (fuel : Nat) (cs : List Value) (x : DataW H × List MemPlace), DataW.trod enc P w base spare held fuel t cs = some x → cs.length = ts.length ∧ ∀ (i : Nat) (u : TypeId), ts[i]? = some u → ∃ v, cs[i]? = some v ∧ PartOk enc P w base spare held u v) (cs : List Value) :
    ∀ (fs : List Field) (o : Nat) (ts : List TypeId), flatFs P g o fs = some ts → (∀ f ∈ fs, ∃ n y, DataW.trod enc P w base spare held n f.type ((cs.drop f.offset).take (P.cellsOf f.type)) = some y) →
      ∀ (i : Nat) (u : TypeId), ts[i]? = some u → ∃ v, cs[o + i]? = some v ∧ PartOk enc P w base spare held u v := by
  intro fs
  induction fs with
  | nil =>
    intro o ts h _ i u hu
    simp [flatFs] at h
    subst h
    simp at hu
  | cons f fs ih =>
    intro o ts h hall i u hu
    simp only [flatFs, Option.bind_eq_some_iff] at h
    obtain ⟨t1, h1, h2⟩ := h
    split at h2
    · rename_i hc
      obtain ⟨t2, h3, rfl⟩ := Option.map_eq_some_iff.1 h2
      obtain ⟨n, y, hy⟩ := hall f (List.mem_cons_self ..)
      obtain ⟨hl, hp⟩ := hg _ _ h1 _ _ _ hy
      by_cases hi : i < t1.length
      · rw [List.getElem?_append_left hi] at hu
        obtain ⟨v, hv, hk⟩ := hp i u hu
        refine ⟨v, ?_, hk⟩
        rw [hc.1, List.getElem?_take] at hv
        split at hv
        · rw [List.getElem?_drop] at hv; exact hv
        · cases hv
      · rw [List.getElem?_append_right (by omega)] at hu
        obtain ⟨v, hv, hk⟩ := ih _ _ h3 (fun f hf => hall f (List.mem_cons_of_mem _ hf)) _ _ hu
        exact ⟨v, by rw [← hv]; congr 1; omega, hk⟩
    · cases h2
theorem repFlat_len (ts : List TypeId) : ∀ n, (repFlat ts n).length = n * ts.length
  | 0 => by simp [repFlat]
  | n + 1 => by simp [repFlat, repFlat_len ts n, Nat.add_mul]; omega
theorem repFlat_spec {cs : List Value} {ts : List TypeId} {L : Nat} (hL : ts.length = L) (e : TypeId) :
    ∀ (n k : Nat), (∀ (i : Nat), i < n → ∀ (j : Nat) (u : TypeId), ts[j]? = some u → ∃ v, ((cs.drop ((k + i) * L)).take L)[j]? = some v ∧ PartOk enc P w base spare held u v) →
      ∀ (i : Nat) (u : TypeId), (repFlat ts n)[i]? = some u → ∃ v, cs[k * L + i]? = some v ∧ PartOk enc P w base spare held u v := by
  intro n
  induction n with
  | zero => intro k _ i u hu; simp [repFlat] at hu
  | succ n ih =>
    intro k hall i u hu
    simp only [repFlat] at hu
    by_cases hi : i < ts.length
    · rw [List.getElem?_append_left hi] at hu
      obtain ⟨v, hv, hk⟩ := hall 0 (by omega) i u hu
      refine ⟨v, ?_, hk⟩
      rw [List.getElem?_take] at hv
      split at hv
      · rw [List.getElem?_drop] at hv; simpa using hv
      · cases hv
    · rw [List.getElem?_append_right (by omega)] at hu
      obtain ⟨v, hv, hk⟩ := ih (k + 1) (fun i hi j u hu => by have := hall (i + 1) (by omega) j u hu; rwa [show k + (i + 1) = k + 1 + i by omega] at this) _ _ hu
      exact ⟨v, by rw [← hv]; congr 1; rw [Nat.add_mul]; omega, hk⟩
theorem flat_spec : ∀ (d : Nat) (t : TypeId) (ts : List TypeId), flat P d t = some ts → ∀ (fuel : Nat) (cs : List Value) (x : DataW H × List MemPlace), DataW.trod enc P w base spare held fuel t cs = some x →
    cs.length = ts.length ∧ ∀ (i : Nat) (u : TypeId), ts[i]? = some u → ∃ v, cs[i]? = some v ∧ PartOk enc P w base spare held u v := by
  intro d
  induction d with
  | zero => intro t ts h; simp [flat] at h
  | succ d ih =>
    intro t ts h fuel cs x hx
    have one : ∀ v, cs = [v] → ts = [t] → cs.length = ts.length ∧ ∀ (i : Nat) (u : TypeId), ts[i]? = some u → ∃ v, cs[i]? = some v ∧ PartOk enc P w base spare held u v := by
      rintro v rfl rfl
      refine ⟨rfl, fun i u hu => ?_⟩
      rcases i with _ | i
      · simp at hu; subst hu; exact ⟨v, rfl, _, _, hx⟩
      · simp at hu
    unfold flat at h
    split at h
    · rename_i k hk
      obtain ⟨n, rfl, _⟩ := DataW.trod_int hk hx
      exact one _ rfl (by simpa using h.symm)
    · rename_i hk
      obtain ⟨n, rfl, _⟩ := DataW.trod_bool hk hx
      exact one _ rfl (by simpa using h.symm)
    · rename_i e hk
      rcases DataW.trod_slice hk hx with ⟨rfl, _⟩ | ⟨a, len, cap, elems, rest, n, _, rfl, _⟩
      · exact one _ rfl (by simpa using h.symm)
      · exact one _ rfl (by simpa using h.symm)
    · rename_i fs hk
      simp only [Option.bind_eq_some_iff] at h
      obtain ⟨t1, h1, h2⟩ := h
      split at h2
      · rename_i hl
        cases h2
        obtain ⟨xs, m, _, _, hlen, hxs, hf⟩ := DataW.trod_struct hk hx
        refine ⟨by rw [hlen, hl], fun i u hu => ?_⟩
        have := flatFs_spec (fun t ts h => ih t ts h) cs fs.toList 0 ts h1 (fun f hf' => by
          obtain ⟨j, hj, rfl⟩ := List.getElem_of_mem hf'
          have hj' : j < fs.size := by simpa using hj
          have h3 := hf j fs[j] (by simp [hj'])
          have hj2 : j < xs.length := by omega
          exact ⟨m, xs[j], by simpa [hj2] using h3⟩) i u hu
        simpa using this
      · cases h2
    · rename_i n e hk
      simp only [Option.bind_eq_some_iff] at h
      obtain ⟨t1, h1, h2⟩ := h
      split at h2
      · rename_i hl
        cases h2
        obtain ⟨xs, m, _, _, hlen, hxs, hf⟩ := DataW.trod_array hk hx
        refine ⟨by rw [hlen, repFlat_len, hl.2], fun i u hu => ?_⟩
        have := repFlat_spec (cs := cs) hl.1 e n 0 (fun i hi j u hu => by
          have h3 := hf i hi
          have hi2 : i < xs.length := by omega
          have h4 : DataW.trod enc P w base spare held m e ((cs.drop (i * P.cellsOf e)).take (P.cellsOf e)) = some xs[i] := by rw [h3]; simp [hi2]
          rw [Nat.zero_add]
          exact (ih e t1 h1 _ _ _ h4).2 j u hu) i u hu
        simpa using this
      · cases h2
    · cases h

theorem add_add (a : Addr) (m k : Nat) : (a.add m).add k = a.add (m + k) := by
  unfold Addr.add
  by_cases hm : m = 0
  · subst hm; simp
  · by_cases hk : k = 0
    · subst hk; simp
    · simp [hm, hk]; omega
/-- What a one-cell part holds, d slices deep. -/
def LeafOk (P : Program) (w : World) : Nat → TypeId → Value → Prop
  | 0, _, _ => True
  | d + 1, u, v => match P.underlying u with
    | some (.int k) => ∃ n, v = .int k n ∧ (Lit.int k n).wf = true
    | some .bool => ∃ b, v = .bool b
    | some (.slice e) => ∃ a n c xs, v = .slice a n c ∧ n ≤ c ∧ c ≤ maxLen ∧ xs.length = n * P.cellsOf e ∧ Rd w a xs ∧ (a = none → n = 0 ∧ c = 0) ∧
        ∀ ts : List TypeId, flat P 9 e = some ts → ∀ (i j : Nat) (u' : TypeId), i < n → ts[j]? = some u' → ∃ v', xs[i * P.cellsOf e + j]? = some v' ∧ LeafOk P w d u' v'
    | _ => True
theorem cells_get {a : Addr} {n : Nat} {cs : List Value} (h : w.cells? 0 a n = some cs) : cs.length = n ∧ ∀ i, i < n → w.cell? (a.add i) = cs[i]? := by
  unfold World.cells? at h
  rw [if_pos (Nat.zero_le _)] at h
  refine ⟨by simpa using mapM_some_length h, fun i hi => ?_⟩
  have := mapM_some_get h i i (by simp [hi])
  exact this
theorem leaf_ok : ∀ (d : Nat) (u : TypeId) (v : Value), PartOk enc P w 0 (fun _ => true) held u v → LeafOk P w d u v := by
  intro d
  induction d with
  | zero => intros; trivial
  | succ d ih =>
    intro u v h
    obtain ⟨m, y, hy⟩ := h
    unfold LeafOk
    split
    · rename_i k hk
      obtain ⟨n, hv, _, hw⟩ := DataW.trod_int hk hy
      simp at hv
      exact ⟨n, hv, hw⟩
    · rename_i hk
      obtain ⟨b, hv, _⟩ := DataW.trod_bool hk hy
      simp at hv
      exact ⟨b, hv⟩
    · rename_i e hk
      rcases DataW.trod_slice hk hy with ⟨hv, _⟩ | ⟨a, len, cap, elems, rest, n, _, hv, _, _, hl, hm, hlen, hel, _, _⟩
      · simp at hv
        exact ⟨none, 0, 0, [], hv, Nat.le_refl _, by unfold maxLen; omega, by simp, Rd.nil _ _, fun _ => ⟨rfl, rfl⟩, fun ts hts i j u' hi => by omega⟩
      · simp at hv
        have each : ∀ i, i < len → ∃ cs y, w.cells? 0 (a.add (i * P.cellsOf e)) (P.cellsOf e) = some cs ∧ DataW.trod enc P w 0 (fun _ => true) held n e cs = some y := by
          intro i hi
          have h1 := hel i hi
          have hi2 : i < elems.length := by omega
          rw [List.getElem?_eq_getElem hi2] at h1
          obtain ⟨cs, h2, h3⟩ := Option.bind_eq_some_iff.1 h1
          exact ⟨cs, _, h2, h3⟩
        have cell : ∀ k, k < len * P.cellsOf e → ∃ x, w.cell? (a.add k) = some x := by
          intro k hk'
          have hpos : 0 < P.cellsOf e := Nat.pos_of_ne_zero fun h => by rw [h] at hk'; simp at hk'
          have hi : k / P.cellsOf e < len := by rw [Nat.div_lt_iff_lt_mul hpos]; exact hk'
          obtain ⟨cs, _, h1, _⟩ := each _ hi
          obtain ⟨hl, hg⟩ := cells_get h1
          have hm := Nat.mod_lt k hpos
          have := hg _ hm
          rw [add_add, Nat.mul_comm, Nat.div_add_mod] at this
          exact ⟨cs[k % P.cellsOf e], by rw [this]; simp [hl, hm]⟩
        have hxl : ((List.range (len * P.cellsOf e)).map fun j => (w.cell? (a.add j)).getD undef).length = len * P.cellsOf e := by simp
        have hget : ∀ k, k < len * P.cellsOf e → ((List.range (len * P.cellsOf e)).map fun j => (w.cell? (a.add j)).getD undef)[k]? = w.cell? (a.add k) := by
          intro k hk'
          obtain ⟨x, hx⟩ := cell k hk'
          simp [hk', hx]
        refine ⟨some a, len, cap, _, hv, hl, hm, hxl, Rd.ofCells fun k hk' => ?_, (fun h => by cases h), fun ts hts i j u' hi hj => ?_⟩
        · rw [hxl] at hk'
          rw [← hget k hk']
          exact List.getElem?_eq_getElem _
        · obtain ⟨cs, y', h1, h2⟩ := each i hi
          obtain ⟨hl, hg⟩ := cells_get h1
          obtain ⟨hlen2, hp⟩ := flat_spec 9 e ts hts _ _ _ h2
          obtain ⟨v', hv', hk'⟩ := hp j u' hj
          have hjl : j < P.cellsOf e := by have := (List.getElem?_eq_some_iff.1 hj).1; omega
          have hb : i * P.cellsOf e + j < len * P.cellsOf e := by
            have := Nat.mul_le_mul_right (P.cellsOf e) (show i + 1 ≤ len by omega)
            rw [Nat.add_mul] at this
            omega
          refine ⟨v', ?_, ih _ _ hk'⟩
          rw [hget _ hb, ← add_add, hg j hjl]
          exact hv'
    · trivial
/-- A slice's value, d slices deep. -/
theorem open_sl {r : Reach} {b0 : Nat} {t e : TypeId} {v : Value} {dd : DataW H} {p : List MemPlace} (hs : P.underlying t = some (.slice e)) (hv : Value.okWide P w r b0 t v) (h : DataW.Trod enc P w 0 (fun _ => true) held t v dd p) (d : Nat) : LeafOk P w d t v := by
  obtain ⟨a, n, c, rfl⟩ := okWide_slice hs hv
  obtain ⟨fuel, h1⟩ := h
  exact leaf_ok d t _ ⟨fuel, _, h1⟩
theorem leaf_int {u : TypeId} {k : IntKind} {v : Value} (hu : P.underlying u = some (.int k)) (h : ∀ d, LeafOk P w d u v) : ∃ n, v = .int k n ∧ (Lit.int k n).wf = true := by
  have h := h 1
  unfold LeafOk at h
  rw [hu] at h
  exact h
theorem leaf_slice {u e : TypeId} {v : Value} (hu : P.underlying u = some (.slice e)) {ts : List TypeId} (hf : flat P 9 e = some ts) (h : ∀ d, LeafOk P w d u v) :
    ∃ a n c xs, v = .slice a n c ∧ n ≤ c ∧ c ≤ maxLen ∧ xs.length = n * P.cellsOf e ∧ Rd w a xs ∧ (a = none → n = 0 ∧ c = 0) ∧ ∀ (i j : Nat) (u' : TypeId), i < n → ts[j]? = some u' → ∃ v', xs[i * P.cellsOf e + j]? = some v' ∧ ∀ d, LeafOk P w d u' v' := by
  have h1 := h 1
  unfold LeafOk at h1
  rw [hu] at h1
  obtain ⟨a, n, c, xs, rfl, hn, hc, hl, hr, h0, hp⟩ := h1
  refine ⟨a, n, c, xs, rfl, hn, hc, hl, hr, h0, fun i j u' hi hj => ?_⟩
  obtain ⟨v', hv', _⟩ := hp ts hf i j u' hi hj
  refine ⟨v', hv', fun d => ?_⟩
  have h2 := h (d + 1)
  unfold LeafOk at h2
  rw [hu] at h2
  obtain ⟨a2, n2, c2, xs2, he, _, _, hl2, hr2, _, hp2⟩ := h2
  simp only [Value.slice.injEq] at he
  obtain ⟨rfl, rfl, rfl⟩ := he
  obtain ⟨v2, hv2, hk⟩ := hp2 ts hf i j u' hi hj
  have e1 : xs2 = xs := by
    apply List.ext_getElem (by rw [hl2, hl])
    intro m h3 h4
    obtain ⟨b, o, e5, h5⟩ := hr m h4
    obtain ⟨b', o', e6, h6⟩ := hr2 m h3
    rw [e5] at e6
    simp only [Option.some.injEq, Addr.mk.injEq] at e6
    obtain ⟨rfl, rfl, _⟩ := e6
    rw [h5] at h6
    exact (Option.some.inj h6).symm
  subst e1
  rw [hv'] at hv2
  cases hv2
  exact hk
end
end Go.Proofs.Ytacglcpjbepfnaa

/- Leaves of arguments: parties, numbers. -/
namespace Go.Proofs.Ytacglcpjbepfnaa
open Go.ChangeShapes Go.WideShapes Go.ChangeAt Go.RowKit
theorem leaf_i64 {w : World} {v : Value} (h : ∀ d, LeafOk Try.prog w d 2 v) : ∃ n : Int, v = .int .i64 n ∧ -9223372036854775808 ≤ n ∧ n ≤ 9223372036854775807 := by
  obtain ⟨n, rfl, hw⟩ := leaf_int Try.underlying2 h
  exact ⟨n, rfl, (bounds_i64 hw).1, (bounds_i64 hw).2⟩
end Go.Proofs.Ytacglcpjbepfnaa

/- Offers, acts on a book, lists of both, as arguments. (Printed by gen/open04.py.) -/
namespace Go.Proofs.Ytacglcpjbepfnaa
open Go.ChangeShapes Go.WideShapes Go.ChangeAt Go.RowKit
set_option linter.unusedVariables false
set_option linter.unusedSimpArgs false
set_option maxRecDepth 100000
/-- An act on a book. -/
structure OAct where
  (k : Int) (o : Ofr) (n : Int)
def oactV (x : OAct) : List Value := [.int .u8 x.k, .int .u64 x.o.sq, .int .u8 x.o.ow, .int .u8 x.o.se, .int .u8 x.o.bu, .int .i64 x.o.le, .int .i64 x.o.nu, .int .i64 x.o.de, .int .i64 x.n]
def oactA (x : OAct) : Array Value := (oactV x).toArray
def oactL (F : List OAct) : List Value := F.flatMap oactV
theorem oact_g0 (x : OAct) : (oactA x)[0]? = some (.int .u8 x.k) := rfl
theorem oact_g8 (x : OAct) : (oactA x)[8]? = some (.int .i64 x.n) := rfl
theorem oact_sz (x : OAct) : (oactA x).size = 9 := rfl
theorem oact_ofr (x : OAct) : (oactA x).extract 1 (1 + 7) = ofrA x.o := by simp [oactA, oactV, ofrA, ofrV]
theorem row_oact : RowTy 97 9 (oactA ⟨0, ⟨0, 0, 0, 0, 0, 0, 0⟩, 0⟩) := ⟨⟨_, Try.underlying97, rfl⟩, by kernel_rfl, by kernel_rfl⟩
theorem oactL_len (F : List OAct) : (oactL F).length = F.length * 9 := by
  induction F with
  | nil => rfl
  | cons x F ih => simp only [oactL, List.flatMap_cons, List.length_append] at *; rw [ih]; simp [oactV, Nat.add_mul]; omega
theorem oactL_at (F : List OAct) (i : Nat) (h : i < F.length) : ((oactL F).drop (i * 9)).take 9 = oactV F[i] := by
  induction F generalizing i with
  | nil => simp at h
  | cons x F ih =>
    rcases i with _ | i
    · simp [oactL, oactV]
    · have : (i + 1) * 9 = 9 + i * 9 := by omega
      rw [this, ← List.drop_drop]
      simp only [List.length_cons] at h
      have := ih i (by omega)
      simpa [oactL, oactV] using this
structure OActOk (x : OAct) : Prop where
  k : 0 ≤ x.k ∧ x.k ≤ 255
  o : OfrOk x.o
  n : -9223372036854775808 ≤ x.n ∧ x.n ≤ 9223372036854775807
theorem leafI_u64 {w : World} {v : Value} (h : ∀ d, LeafOk Try.prog w d 79 v) : ∃ n : Int, v = .int .u64 n ∧ 0 ≤ n ∧ n ≤ 18446744073709551615 := by
  obtain ⟨n, rfl, hw⟩ := leaf_int Try.underlying79 h
  exact ⟨n, rfl, bounds_u64 hw⟩
theorem leafI_u8 {w : World} {v : Value} {u : TypeId} (hu : Try.prog.underlying u = some (.int .u8)) (h : ∀ d, LeafOk Try.prog w d u v) : ∃ n : Int, v = .int .u8 n ∧ 0 ≤ n ∧ n ≤ 255 := by
  obtain ⟨n, rfl, hw⟩ := leaf_int hu h
  exact ⟨n, rfl, (bounds_u8 hw).1, (bounds_u8 hw).2⟩
theorem flat_oact : flat Try.prog 9 97 = some [5, 79, 23, 24, 24, 2, 2, 2, 2] := by kernel_rfl
theorem oact_cellsOf : Try.prog.cellsOf 97 = 9 := by kernel_rfl
structure OActsArg (w : World) (a : Option Addr) (n c : Nat) (F : List OAct) : Prop where
  len : F.length = n
  cap : n ≤ c
  max : c ≤ maxLen
  rd : Rd w a (oactL F)
  ok : ∀ x ∈ F, OActOk x
theorem oacts_of {w : World} : ∀ (n : Nat) (xs : List Value), xs.length = n * 9 → (∀ (i j : Nat) (u : TypeId), i < n → ([5, 79, 23, 24, 24, 2, 2, 2, 2] : List TypeId)[j]? = some u → ∃ v, xs[i * 9 + j]? = some v ∧ ∀ d, LeafOk Try.prog w d u v) → ∃ F : List OAct, F.length = n ∧ xs = oactL F ∧ ∀ x ∈ F, OActOk x
  | 0, xs, hl, _ => ⟨[], rfl, by simpa [oactL] using hl, by simp⟩
  | n + 1, xs, hl, h => by
    rcases xs with _ | ⟨c0, _ | ⟨c1, _ | ⟨c2, _ | ⟨c3, _ | ⟨c4, _ | ⟨c5, _ | ⟨c6, _ | ⟨c7, _ | ⟨c8, ys⟩⟩⟩⟩⟩⟩⟩⟩⟩
    · simp at hl
    · simp at hl; omega
    · simp at hl; omega
    · simp at hl; omega
    · simp at hl; omega
    · simp at hl; omega
    · simp at hl; omega
    · simp at hl; omega
    · simp at hl; omega
    · obtain ⟨x0, h0, k0⟩ := h 0 0 _ (by omega) rfl
      obtain ⟨x1, h1, k1⟩ := h 0 1 _ (by omega) rfl
      obtain ⟨x2, h2, k2⟩ := h 0 2 _ (by omega) rfl
      obtain ⟨x3, h3, k3⟩ := h 0 3 _ (by omega) rfl
      obtain ⟨x4, h4, k4⟩ := h 0 4 _ (by omega) rfl
      obtain ⟨x5, h5, k5⟩ := h 0 5 _ (by omega) rfl
      obtain ⟨x6, h6, k6⟩ := h 0 6 _ (by omega) rfl
      obtain ⟨x7, h7, k7⟩ := h 0 7 _ (by omega) rfl
      obtain ⟨x8, h8, k8⟩ := h 0 8 _ (by omega) rfl
      simp at h0 h1 h2 h3 h4 h5 h6 h7 h8
      subst h0 h1 h2 h3 h4 h5 h6 h7 h8
      obtain ⟨w0, rfl, q0⟩ := leafI_u8 Try.underlying5 k0
      obtain ⟨w1, rfl, q1⟩ := leafI_u64 k1
      obtain ⟨w2, rfl, q2⟩ := leafI_u8 Try.underlying23 k2
      obtain ⟨w3, rfl, q3⟩ := leafI_u8 Try.underlying24 k3
      obtain ⟨w4, rfl, q4⟩ := leafI_u8 Try.underlying24 k4
      obtain ⟨w5, rfl, q5⟩ := leaf_i64 k5
      obtain ⟨w6, rfl, q6⟩ := leaf_i64 k6
      obtain ⟨w7, rfl, q7⟩ := leaf_i64 k7
      obtain ⟨w8, rfl, q8⟩ := leaf_i64 k8
      obtain ⟨F, hF, rfl, hok⟩ := oacts_of n ys (by simp at hl; omega) (fun i j u hi hj => by
        obtain ⟨v, hv, hk⟩ := h (i + 1) j u (by omega) hj
        refine ⟨v, ?_, hk⟩
        rw [show (i + 1) * 9 + j = (i * 9 + j) + 9 by omega] at hv
        simpa using hv)
      exact ⟨⟨w0, ⟨w1, w2, w3, w4, w5, w6, w7⟩, w8⟩ :: F, by simp [hF], by simp [oactL, oactV], fun x hx => by
        rcases List.mem_cons.1 hx with rfl | hx
        · exact ⟨q0, ⟨q1, q2, q3, q4, q5, q6, q7⟩, q8⟩
        · exact hok x hx⟩
def OActsV (w : World) (v : Value) : Prop := ∃ a n c F, v = .slice a n c ∧ OActsArg w a n c F
theorem open_oacts {H : Type} {enc : TypeId × Value → H} {W : World} {held : Bool} {v : Value} {d : DataW H} {p : List MemPlace} {r : Reach} {b0 : Nat}
    (hval : Value.okWide Try.prog W r b0 73 v) (h : DataW.Trod enc Try.prog W 0 (fun _ => true) held 73 v d p) : OActsV W v := by
  have hk := fun d => open_sl Try.underlying73 hval h d
  obtain ⟨a, n, c, xs, rfl, hn, hc, hl, hr, _, hp⟩ := leaf_slice Try.underlying73 flat_oact hk
  rw [oact_cellsOf] at hl hp
  obtain ⟨F, hF, rfl, hok⟩ := oacts_of (w := W) n xs hl hp
  exact ⟨a, n, c, F, rfl, hF, hn, hc, hr, hok⟩
end Go.Proofs.Ytacglcpjbepfnaa

/- countinghouselaw04.Made: a book of whatever acts. (Printed by gen/made4.py.) -/
namespace Go.Proofs.Ytacglcpjbepfnaa
open Go.RowKit
set_option linter.unusedSimpArgs false
set_option linter.unusedVariables false
theorem cell_u8 : CellTy 5 := ⟨⟨_, Try.underlying5, rfl⟩, by kernel_rfl⟩
section
variable {W w : World} {l : List Thing}
set_option maxRecDepth 100000
set_option maxHeartbeats 8000000
end
end Go.Proofs.Ytacglcpjbepfnaa
