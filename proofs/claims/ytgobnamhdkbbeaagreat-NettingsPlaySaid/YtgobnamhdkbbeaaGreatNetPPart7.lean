/- Part 7 of what ProofNettingsPlay stands on: RefLed. -/
import Derived.Test.YtgobnamhdkbbeaaGreatNetPPart6
/- countinghouseref03: the reference's ledger, whole. -/
/- countinghouseref03: the reference's ledger. -/
namespace Go.Proofs.YtgobnamhdkbbeaaGreat
open Go.RowKit
set_option linter.unusedSimpArgs false
set_option linter.unusedVariables false
theorem cell_pars : CellTy 58 := ⟨⟨_, Tryz.underlying58, rfl⟩, by kernel_rfl⟩
theorem cell_lins : CellTy 59 := ⟨⟨_, Tryz.underlying59, rfl⟩, by kernel_rfl⟩
abbrev refA (v1 v2 : Value) : Array Value := #[v1, v2]
theorem refA_g0 (v1 v2 : Value) : (refA v1 v2)[0]? = some v1 := rfl
theorem refA_g1 (v1 v2 : Value) : (refA v1 v2)[1]? = some v2 := rfl
/-- The reference's ledger: its block. -/
abbrev RefC (p : Nat) (v1 v2 : Value) : Thing := Cel p (refA v1 v2) 61
structure HasL (W : World) (l : List Thing) (P : List Int) (x : Int) (n : Nat) (i : Value) (wr : World) : Prop where
  out : ∃ k : Nat, k ≤ n ∧ i = .int .i64 (k : Int) ∧ x ∉ P.take k ∧ Heap W l wr
section
variable {W w : World} {l : List Thing} {p : Nat}
set_option maxRecDepth 100000
set_option maxHeartbeats 4000000
theorem rank_ans (a b c : Nat) (li de : Int) (ha : a ≤ 255) (hb : b ≤ 255) (hc : c ≤ 255) : Ans 69 #[.agg (line (a : Int) (b : Int) (c : Int) li de)] (.int .i64 (Lin.rank ⟨(a : Int), (b : Int), (c : Int), li, de⟩)) := by
  intro w
  have H := Heap.start w
  have e : Lin.rank ⟨(a : Int), (b : Int), (c : Int), li, de⟩ = (c : Int) * 65536 + (a : Int) * 256 + (b : Int) := rfl
  rw [e]
  have h1 : wrap64 ((c : Int) * 65536) = (c : Int) * 65536 := IntWalk.wrap64_in _ ⟨by omega, by omega⟩
  have h2 : wrap64 ((a : Int) * 256) = (a : Int) * 256 := IntWalk.wrap64_in _ ⟨by omega, by omega⟩
  have h3 : wrap64 ((c : Int) * 65536 + (a : Int) * 256) = (c : Int) * 65536 + (a : Int) * 256 := IntWalk.wrap64_in _ ⟨by omega, by omega⟩
  have h4 : wrap64 ((c : Int) * 65536 + (a : Int) * 256 + (b : Int)) = (c : Int) * 65536 + (a : Int) * 256 + (b : Int) := IntWalk.wrap64_in _ ⟨by omega, by omega⟩
  clear e
  go_enter Tryz.func69, Tryz.ntmps69
  go_wp2_with (first | go_skip | ((with_reducible show wpList _ _ _ (_ :: _) _ _); (with_reducible apply wpl_boxRH); (· rfl); (· rfl); (· exact H); (clear H; intro px _ H); (simp only [Act.put, List.setIfInBounds_toArray, List.set_cons_zero, List.set_cons_succ])) | ((with_reducible show wpList _ _ _ (_ :: _) _ _); (with_reducible apply wpl_loadCH); (· first | exact cell_party | exact cell_cur | exact cell_i64); (· rfl); (· rfl); (· exact H); (· (repeat (first | (with_reducible exact List.mem_cons_self) | with_reducible apply List.mem_cons_of_mem))); (· with_reducible first | exact line_g0 .. | exact line_g1 .. | exact line_g2 ..); (simp only [Act.put, List.setIfInBounds_toArray, List.set_cons_zero, List.set_cons_succ])))
  go_ret
  exact ⟨rfl, H.low⟩
theorem rhas_H (a : Option Addr) (n c : Nat) (v2 : Value) (P : List Int) (x : Nat) (hl : P.length = n) (hn : n ≤ 1000000) (R : ∀ w', Heap W l w' → Rd w' a (pI P)) (hm : RefC p (.slice a n c) v2 ∈ l) : AnsH W l 49 #[.pointer (some ⟨p, 0, none⟩), .int .u8 (x : Int)] (.bool (decide ((x : Int) ∈ P))) := by
  intro w H
  have HL := Lib.hid hl
  have HR := Lib.hid R
  clear hl R
  generalize hres : decide ((x : Int) ∈ P) = res
  have HRES := Lib.hid hres
  clear hres
  go_enter Tryz.func49, Tryz.ntmps49
  go_wp2_with (go_skip)
  have H0 := H
  clear H
  go_loopw [5] (fun i wr => HasL W l P x n i wr) (fun i _ => n - (intOf i).toNat)
  case atStart => exact ⟨0, Nat.zero_le _, rfl, by simp, H0⟩
  case round =>
    obtain ⟨k, hk, rfl, ht, H⟩ := hrel.out
    clear H0 hrel
    have HT := Lib.hid ht
    clear ht
    by_cases hlt : k < n
    · have hkP : k < P.length := by rw [HL.out]; exact hlt
      obtain ⟨y, hy⟩ : ∃ y, P[k]? = some y := ⟨P[k], List.getElem?_eq_getElem hkP⟩
      obtain ⟨b, o, rfl, _⟩ := (HR.out _ H).lt (by rw [pI_len]; omega)
      have hcell := fun (w' : World) (h : Heap W l w') => rd_pI (HR.out w' h) hy
      have HY := Lib.hid hy
      clear hy hkP
      by_cases e : y = (x : Int)
      · have e1 : (y == (x : Int)) = true := by simpa using e
        have HE := Lib.hid e
        clear e
        go_wp2_with (first | go_skip | ((with_reducible show wpList _ _ _ (_ :: _) _ _); (with_reducible apply wpl_loadCH); (· exact cell_pars); (· rfl); (· rfl); (· exact H); (· exact hm); (· exact refA_g0 ..); (simp only [Act.put, List.setIfInBounds_toArray, List.set_cons_zero, List.set_cons_succ])) | ((with_reducible show wpList _ _ _ (_ :: _) _ _); (with_reducible apply wpl_loadCell); (· exact cell_party); (· rfl); (· rfl); (· exact hcell _ H); (simp only [Act.put, List.setIfInBounds_toArray, List.set_cons_zero, List.set_cons_succ])))
        go_ret
        rw [← HRES.out, decide_eq_true (HE.out ▸ List.mem_of_getElem? HY.out)]
        exact ⟨rfl, H⟩
      · have e1 : (y == (x : Int)) = false := by simpa using e
        have HE := Lib.hid e
        clear e
        go_wp2_with (first | go_skip | ((with_reducible show wpList _ _ _ (_ :: _) _ _); (with_reducible apply wpl_loadCH); (· exact cell_pars); (· rfl); (· rfl); (· exact H); (· exact hm); (· exact refA_g0 ..); (simp only [Act.put, List.setIfInBounds_toArray, List.set_cons_zero, List.set_cons_succ])) | ((with_reducible show wpList _ _ _ (_ :: _) _ _); (with_reducible apply wpl_loadCell); (· exact cell_party); (· rfl); (· rfl); (· exact hcell _ H); (simp only [Act.put, List.setIfInBounds_toArray, List.set_cons_zero, List.set_cons_succ])))
        refine ⟨⟨k + 1, by omega, by go_num, ?_, H⟩, ?measure⟩
        case measure => simp [intOf]; omega
        rw [List.take_add_one, HY.out, List.mem_append]
        rintro (h | h)
        · exact HT.out h
        · simp at h; exact HE.out h.symm
    · obtain rfl : k = n := by omega
      go_wp2_with (first | go_skip | ((with_reducible show wpList _ _ _ (_ :: _) _ _); (with_reducible apply wpl_loadCH); (· exact cell_pars); (· rfl); (· rfl); (· exact H); (· exact hm); (· exact refA_g0 ..); (simp only [Act.put, List.setIfInBounds_toArray, List.set_cons_zero, List.set_cons_succ])))
      go_ret
      rw [← HRES.out, decide_eq_false (by have := HT.out; rwa [List.take_of_length_le (by rw [HL.out]; exact Nat.le_refl _)] at this)]
      exact ⟨rfl, H⟩
end
end Go.Proofs.YtgobnamhdkbbeaaGreat

/- countinghouseref03: Open, set. -/
namespace Go.Proofs.YtgobnamhdkbbeaaGreat
open Go.RowKit
set_option linter.unusedSimpArgs false
set_option linter.unusedVariables false
theorem refA_lt0 (v1 v2 : Value) : 0 < (refA v1 v2).size := Nat.zero_lt_succ 1
theorem refA_lt1 (v1 v2 : Value) : 1 < (refA v1 v2).size := Nat.lt_succ_self 1
theorem refA_s0 (v1 v2 v : Value) : (refA v1 v2).setIfInBounds 0 v = refA v v2 := rfl
theorem refA_s1 (v1 v2 v : Value) : (refA v1 v2).setIfInBounds 1 v = refA v1 v := rfl
/-- The reference's ledger, with its lists. -/
def RefH (W : World) (l : List Thing) (p : Nat) (S : Lgr) (w : World) : Prop := ∃ a n c b m d, S.P.length = n ∧ S.L.length = m ∧ Heap W (RefC p (.slice a n c) (.slice b m d) :: RowT 30 1 (.slice a n c) n (pI S.P) :: RowT 65 5 (.slice b m d) m (linL S.L) :: l) w
structure OpenR (W : World) (l : List Thing) (P : List Int) (x : Int) (v i : Value) (wr : World) : Prop where
  out : ∃ a : Nat, i = .int .u8 (a : Int) ∧ 1 ≤ a ∧ a ≤ 17 ∧ Heap W (RowT 30 1 v (openU P x (a - 1)).length (pI (openU P x (a - 1))) :: l) wr
theorem openU_next (P : List Int) (x : Int) {a : Nat} (h : 1 ≤ a) : openU P x (a + 1 - 1) = openU P x (a - 1) ++ (if (a : Int) = x ∨ (a : Int) ∈ P then [(a : Int)] else []) := by
  obtain ⟨k, rfl⟩ : ∃ k, a = k + 1 := ⟨a - 1, by omega⟩
  rfl
section
variable {W w : World} {l : List Thing} {p : Nat} {S : Lgr}
set_option maxRecDepth 100000
set_option maxHeartbeats 4000000
theorem ropen_H (x : Nat) (hx : x ≤ 255) (G : S.Good) (H : RefH W l p S w) :
    Calls Tryz.prog 19 #[.pointer (some ⟨p, 0, none⟩), .int .u8 (x : Int)] w fun e w' => e = .returned (.int .i64 (openE S (x : Int))) ∧ RefH W l p (openS S (x : Int)) w' := by
  obtain ⟨a, n, c, b, m, d, h1, h2, H⟩ := H
  have hn16 := G.few16
  have HAS := fun (l' : List Thing) (y : Nat) (m1 : RefC p (.slice a n c) (.slice b m d) ∈ l') (m2 : RowT 30 1 (.slice a n c) n (pI S.P) ∈ l') => rhas_H (W := W) (l := l') (p := p) a n c (.slice b m d) S.P y h1 (by omega) (fun w' h => h.rowRd m2) m1
  by_cases c1 : x < 1 ∨ 16 < x
  · have e0 : openE S (x : Int) = 1 := by unfold openE; rw [if_pos (by omega)]
    have e1 : openS S (x : Int) = S := by unfold openS; rw [if_neg (by omega)]
    have HE := Lib.hid (And.intro e0 (And.intro e1 (And.intro h1 h2)))
    clear e0 e1 h1 h2 HAS G hn16
    by_cases c2 : x < 1
    · go_enter Tryz.func19, Tryz.ntmps19
      go_wp2_with (go_skip)
      go_ret
      rw [HE.out.1, HE.out.2.1]
      exact ⟨rfl, a, n, c, b, m, d, HE.out.2.2.1, HE.out.2.2.2, H⟩
    · have c3 : 16 < x := by omega
      go_enter Tryz.func19, Tryz.ntmps19
      go_wp2_with (go_skip)
      go_ret
      rw [HE.out.1, HE.out.2.1]
      exact ⟨rfl, a, n, c, b, m, d, HE.out.2.2.1, HE.out.2.2.2, H⟩
  · have hA := HAS (RefC p (.slice a n c) (.slice b m d) :: RowT 30 1 (.slice a n c) n (pI S.P) :: RowT 65 5 (.slice b m d) m (linL S.L) :: l) x (by (repeat (first | (with_reducible exact List.mem_cons_self) | with_reducible apply List.mem_cons_of_mem))) (by (repeat (first | (with_reducible exact List.mem_cons_self) | with_reducible apply List.mem_cons_of_mem)))
    by_cases c2 : (x : Int) ∈ S.P
    · have e0 : openE S (x : Int) = 8 := by unfold openE; rw [if_neg (by omega), if_pos c2]
      have e1 : openS S (x : Int) = S := by unfold openS; rw [if_neg (by omega)]
      rw [decide_eq_true c2] at hA
      have HE := Lib.hid (And.intro e0 (And.intro e1 (And.intro h1 h2)))
      clear e0 e1 h1 h2 HAS G hn16 c2
      go_enter Tryz.func19, Tryz.ntmps19
      go_wp2_with (first | go_skip | ((with_reducible refine AnsH.call (by assumption) H ?_); clear H; intro _ H))
      go_ret
      rw [HE.out.1, HE.out.2.1]
      exact ⟨rfl, a, n, c, b, m, d, HE.out.2.2.1, HE.out.2.2.2, H⟩
    · have e0 : openE S (x : Int) = 0 := by unfold openE; rw [if_neg (by omega), if_neg c2]
      have e1 : openS S (x : Int) = ⟨insP S.P x, S.L⟩ := by unfold openS; rw [if_pos e0]
      have e2 : openU S.P (x : Int) 16 = insP S.P x := openU_eq G e0
      rw [decide_eq_false c2] at hA
      have HE := Lib.hid (And.intro e0 (And.intro e1 (And.intro e2 (And.intro h1 h2))))
      have HH := Lib.hid HAS
      clear e0 e1 e2 h1 h2 HAS G hn16 c2
      go_enter Tryz.func19, Tryz.ntmps19
      go_wp2_with (first | go_skip | ((with_reducible refine AnsH.call (by assumption) H ?_); clear H; intro _ H))
      clear hA
      have H0 := H.nilRow 30 1
      clear H
      go_loopw [5, 6] (fun v i wr => OpenR W (RefC p (.slice a n c) (.slice b m d) :: RowT 30 1 (.slice a n c) n (pI S.P) :: RowT 65 5 (.slice b m d) m (linL S.L) :: l) S.P (x : Int) v i wr) (fun _ i _ => 17 - (intOf i).toNat)
      case atStart => exact ⟨1, rfl, by omega, by omega, H0⟩
      case round =>
        obtain ⟨q, rfl, hq1, hq2, H⟩ := hrel.out
        clear H0 hrel
        have HN := Lib.hid (openU_next S.P (x : Int) hq1)
        have hb := openU_len S.P (x : Int) (q - 1)
        by_cases hlt : q < 17
        · have g1 : decide ((q : Int) ≤ 16) = true := by simp; omega
          have hn1 : (openU S.P (x : Int) (q - 1)).length + 1 ≤ maxLen := by unfold maxLen; omega
          have hn2 : ((openU S.P (x : Int) (q - 1)).length + 1) * 1 ≤ 140737488355328 := by omega
          by_cases e1 : q = x
          · have b1 : ((q : Int) == (x : Int)) = true := by simp; omega
            have HV := Lib.hid (show openU S.P (x : Int) (q + 1 - 1) = openU S.P (x : Int) (q - 1) ++ [(q : Int)] by rw [HN.out, if_pos (.inl (by omega))])
            clear HN e1 hb
            go_wp2_with (first
              | ((with_reducible show wpList _ _ _ (_ :: _) _ _); (with_reducible apply wpl_bsOnes _ [.int .u8 (q : Int)]); (· rfl); (· rfl); (· rfl); (· decide); (· decide); (· (intro v hv; simp at hv; subst hv; rfl)); (· exact bs_pa); (· rfl); (· exact H); (clear H; intro pl _ H); (simp only [Act.put, List.setIfInBounds_toArray, List.set_cons_zero, List.set_cons_succ]))
              | ((with_reducible show wpList _ _ _ (_ :: _) _ _); (with_reducible apply wpl_appendH slPa); (· rfl); (· rfl); (· rfl); (· rfl); (· exact H.perm (.swap _ _ _)); (· exact H.celRd List.mem_cons_self); (· rfl); (· exact pI_one [(q : Int)]); (· exact hn1); (· exact hn2); (clear H; intro v2 _ H); (simp only [Act.put, List.setIfInBounds_toArray, List.set_cons_zero, List.set_cons_succ]))
              | go_skip)
            replace H := H.drop (.there .here)
            refine ⟨⟨q + 1, by go_num, by omega, by omega, ?_⟩, ?measure⟩
            case measure => simp [intOf]; omega
            rw [HV.out, pI_app, List.length_append]
            exact H
          · have b1 : ((q : Int) == (x : Int)) = false := by simp; omega
            have hA := HH.out (RowT 30 1 u5 (openU S.P (x : Int) (q - 1)).length (pI (openU S.P (x : Int) (q - 1))) :: RefC p (.slice a n c) (.slice b m d) :: RowT 30 1 (.slice a n c) n (pI S.P) :: RowT 65 5 (.slice b m d) m (linL S.L) :: l) q (by (repeat (first | (with_reducible exact List.mem_cons_self) | with_reducible apply List.mem_cons_of_mem))) (by (repeat (first | (with_reducible exact List.mem_cons_self) | with_reducible apply List.mem_cons_of_mem)))
            by_cases e2 : (q : Int) ∈ S.P
            · rw [decide_eq_true e2] at hA
              have HV := Lib.hid (show openU S.P (x : Int) (q + 1 - 1) = openU S.P (x : Int) (q - 1) ++ [(q : Int)] by rw [HN.out, if_pos (.inr e2)])
              clear HN e1 e2 hb
              go_wp2_with (first
                | ((with_reducible show wpList _ _ _ (_ :: _) _ _); (with_reducible apply wpl_bsOnes _ [.int .u8 (q : Int)]); (· rfl); (· rfl); (· rfl); (· decide); (· decide); (· (intro v hv; simp at hv; subst hv; rfl)); (· exact bs_pa); (· rfl); (· exact H); (clear H; intro pl _ H); (simp only [Act.put, List.setIfInBounds_toArray, List.set_cons_zero, List.set_cons_succ]))
                | ((with_reducible show wpList _ _ _ (_ :: _) _ _); (with_reducible apply wpl_appendH slPa); (· rfl); (· rfl); (· rfl); (· rfl); (· exact H.perm (.swap _ _ _)); (· exact H.celRd List.mem_cons_self); (· rfl); (· exact pI_one [(q : Int)]); (· exact hn1); (· exact hn2); (clear H; intro v2 _ H); (simp only [Act.put, List.setIfInBounds_toArray, List.set_cons_zero, List.set_cons_succ]))
                | go_skip
                | ((with_reducible refine AnsH.call (by assumption) H ?_); clear H; intro _ H))
              replace H := H.drop (.there .here)
              refine ⟨⟨q + 1, by go_num, by omega, by omega, ?_⟩, ?measure2⟩
              case measure2 => simp [intOf]; omega
              rw [HV.out, pI_app, List.length_append]
              exact H
            · rw [decide_eq_false e2] at hA
              have HV := Lib.hid (show openU S.P (x : Int) (q + 1 - 1) = openU S.P (x : Int) (q - 1) by rw [HN.out, if_neg (by rintro (h | h); (· omega); exact e2 h), List.append_nil])
              clear HN e1 e2 hb
              go_wp2_with (first | go_skip | ((with_reducible refine AnsH.call (by assumption) H ?_); clear H; intro _ H))
              refine ⟨⟨q + 1, by go_num, by omega, by omega, ?_⟩, ?measure3⟩
              case measure3 => simp [intOf]; omega
              rw [HV.out]
              exact H
        · obtain rfl : q = 17 := by omega
          have g1 : decide (((17 : Nat) : Int) ≤ 16) = false := by decide
          clear HN hb
          simp only [Nat.add_one_sub_one, Nat.reduceSub] at H
          rw [HE.out.2.2.1] at H
          obtain ⟨a2, c2, rfl, _, _⟩ := RowT.form0 (H.ok _ List.mem_cons_self)
          generalize hn2 : (insP S.P (x : Int)).length = n2 at *
          have HN2 := Lib.hid hn2
          clear hn2
          go_wp2_with (first
            | go_skip
            | ((with_reducible show wpList _ _ _ (_ :: _) _ _); (with_reducible apply wpl_storeSH); (· exact cell_pars); (· rfl); (· rfl); (· rfl); (· exact H); (· (repeat (first | (with_reducible exact List.mem_cons_self) | with_reducible apply List.mem_cons_of_mem))); (· exact refA_lt0 ..); (· exact refA_s0 ..); (· (repeat (first | (with_reducible exact Repl.here) | with_reducible apply Repl.there))); (clear H; intro _ H); (simp only [Act.put, List.setIfInBounds_toArray, List.set_cons_zero, List.set_cons_succ])))
          go_ret
          rw [HE.out.1, HE.out.2.1]
          exact ⟨rfl, a2, n2, c2, b, m, d, HN2.out, HE.out.2.2.2.2, (H.drop (.there (.there .here))).perm (.swap _ _ _)⟩
end
end Go.Proofs.YtgobnamhdkbbeaaGreat

/- countinghouseref03: set. -/
namespace Go.Proofs.YtgobnamhdkbbeaaGreat
open Go.RowKit
set_option linter.unusedSimpArgs false
set_option linter.unusedVariables false
theorem cap_ok {t : Nat} (h : t ≤ 2000000) : t ≤ maxLen := by unfold maxLen; omega
theorem bytes24 {t : Nat} (h : t ≤ 2000000) : t * 24 ≤ 140737488355328 := by omega
structure SetR (W : World) (l : List Thing) (px : Nat) (x : Lin) (L : List Lin) (v b i : Value) (wr : World) : Prop where
  out : ∃ (k : Nat) (f : Bool) (D : List Lin), k ≤ L.length ∧ i = .int .i64 (k : Int) ∧ b = .bool f ∧ D.length ≤ 2 * k ∧ D ++ setR x (L.drop k) f = setR x L (decide (x.lim = 0)) ∧
    Heap W (RowT 65 5 v D.length (linL D) :: Cel px (line x.cr x.db x.cu x.lim x.deb) 65 :: l) wr
theorem rank_ansI (x : Lin) (h1 : 0 ≤ x.cr ∧ x.cr ≤ 255) (h2 : 0 ≤ x.db ∧ x.db ≤ 255) (h3 : 0 ≤ x.cu ∧ x.cu ≤ 255) : Ans 69 #[.agg (line x.cr x.db x.cu x.lim x.deb)] (.int .i64 x.rank) := by
  obtain ⟨a, b, c, li, de⟩ := x
  simp only at h1 h2 h3
  obtain ⟨a, rfl⟩ := Int.eq_ofNat_of_zero_le h1.1
  obtain ⟨b, rfl⟩ := Int.eq_ofNat_of_zero_le h2.1
  obtain ⟨c, rfl⟩ := Int.eq_ofNat_of_zero_le h3.1
  exact rank_ans a b c li de (by omega) (by omega) (by omega)
theorem setR_skip {x y : Lin} {ys : List Lin} {f : Bool} (h : y.rank = x.rank) : setR x (y :: ys) f = setR x ys f := by
  rw [setR, if_pos h]
theorem setR_put {x y : Lin} {ys : List Lin} (h : x.rank < y.rank) : setR x (y :: ys) false = x :: y :: setR x ys true := by
  rw [setR, if_neg (by omega), if_pos ⟨rfl, h⟩]
theorem setR_on {x y : Lin} {ys : List Lin} {f : Bool} (h : y.rank ≠ x.rank) (h2 : f = true ∨ ¬ x.rank < y.rank) : setR x (y :: ys) f = y :: setR x ys f := by
  rw [setR, if_neg h, if_neg (by rintro ⟨h3, h4⟩; rcases h2 with h2 | h2; (· rw [h2] at h3; cases h3); exact h2 h4)]
theorem linL_snoc (D : List Lin) (y : Lin) : linL D ++ (line y.cr y.db y.cu y.lim y.deb).toList = linL (D ++ [y]) := by rw [linL_app]; simp [linL, linV]
theorem len_snoc (D : List Lin) (y : Lin) : D.length + 1 = (D ++ [y]).length := by simp
section
variable {W w : World} {l : List Thing} {p : Nat} {S : Lgr}
set_option maxRecDepth 100000
set_option maxHeartbeats 8000000
theorem rsetL_H (x : Lin) (h1 : 0 ≤ x.cr ∧ x.cr ≤ 255) (h2 : 0 ≤ x.db ∧ x.db ≤ 255) (h3 : 0 ≤ x.cu ∧ x.cu ≤ 255) (G : S.Good) (H : RefH W l p S w) :
    Calls Tryz.prog 50 #[.pointer (some ⟨p, 0, none⟩), .agg (line x.cr x.db x.cu x.lim x.deb)] w fun e w' => e = .returned (.tuple #[]) ∧ RefH W l p ⟨S.P, setL S.L x⟩ w' := by
  obtain ⟨a, n, c, b, m, d, hl1, hl2, H⟩ := H
  have RX := rank_ansI x h1 h2 h3
  have hset := setR_eq G.ord x
  have hfew := G.few
  have HY := Lib.hid (show ∀ y ∈ S.L, Ans 69 #[.agg (line y.cr y.db y.cu y.lim y.deb)] (.int .i64 y.rank) from fun y hy => rank_ansI y (by have := G.small hy; omega) (by have := G.small hy; omega) (by have := (G.ok y hy).cu; omega))
  have HS := Lib.hid (And.intro hset (And.intro hl1 hl2))
  have HLM := Lib.hid hl2
  clear hset hl1 h1 h2 h3 G
  obtain ⟨P, L⟩ := S
  simp only at *
  obtain ⟨rx, hrx⟩ : ∃ rx, x.rank = rx := ⟨_, rfl⟩
  rw [hrx] at RX
  have HRX := Lib.hid hrx
  clear hrx
  go_enter Tryz.func50, Tryz.ntmps50
  go_wp2_with (first | go_skip | ((with_reducible show wpList _ _ _ (_ :: _) _ _); (with_reducible apply wpl_boxRH); (· rfl); (· rfl); (· exact H); (clear H; intro px _ H); (simp only [Act.put, List.setIfInBounds_toArray, List.set_cons_zero, List.set_cons_succ])) | ((with_reducible show wpList _ _ _ (_ :: _) _ _); (with_reducible apply wpl_loadCH); (· exact cell_i64); (· rfl); (· rfl); (· exact H); (· (repeat (first | (with_reducible exact List.mem_cons_self) | with_reducible apply List.mem_cons_of_mem))); (· exact line_g3 ..); (simp only [Act.put, List.setIfInBounds_toArray, List.set_cons_zero, List.set_cons_succ])))
  have H0 := H.nilRow 65 5
  clear H
  go_loopw [4, 5, 6] (fun v f i wr => SetR W (RefC p (.slice a n c) (.slice b m d) :: RowT 30 1 (.slice a n c) n (pI P) :: RowT 65 5 (.slice b m d) m (linL L) :: l) px x L v f i wr) (fun _ _ i _ => m - (intOf i).toNat)
  case atStart => exact ⟨0, _, [], Nat.zero_le _, rfl, rfl, by simp, by rw [List.nil_append, List.drop_zero]; congr 1, H0⟩
  case round =>
    obtain ⟨k, f, D, hk, rfl, rfl, hD, hR, H⟩ := hrel.out
    clear H0 hrel
    by_cases hlt : k < m
    · have hkL : k < L.length := by omega
      obtain ⟨y, hy⟩ : ∃ y, L[k]? = some y := ⟨L[k], List.getElem?_eq_getElem hkL⟩
      have hdr : L.drop k = y :: L.drop (k + 1) := by
        obtain ⟨hk', rfl⟩ := List.getElem?_eq_some_iff.1 hy
        exact List.drop_eq_getElem_cons hk'
      have RY := HY.out y (List.mem_of_getElem? hy)
      have hrow : (((linL L).drop (k * 5)).take 5).toArray = line y.cr y.db y.cu y.lim y.deb := by
        obtain ⟨hk', rfl⟩ := List.getElem?_eq_some_iff.1 hy
        exact linL_row L k hk'
      have hlen : k * 5 + 5 ≤ (linL L).length := by rw [linL_len]; omega
      rw [hdr] at hR
      obtain ⟨ry, hry⟩ : ∃ ry, y.rank = ry := ⟨_, rfl⟩
      rw [hry] at RY
      have HRY := Lib.hid hry
      have HRR := Lib.hid hR
      have hD0 : D.length ≤ 200 := by omega
      have hD1 := cap_ok (t := D.length + 1) (by omega)
      have hD2 := bytes24 (t := D.length + 1) (by omega)
      have hD3 := cap_ok (t := D.length + 1 + 1) (by omega)
      have hD4 := bytes24 (t := D.length + 1 + 1) (by omega)
      obtain ⟨bb, bo, rfl, _⟩ := (H.rowRd (by (repeat (first | (with_reducible exact List.mem_cons_self) | with_reducible apply List.mem_cons_of_mem)) : RowT 65 5 (.slice b m d) m (linL L) ∈ _)).lt (by omega)
      have HRD := Lib.hid (H.rowRd (by (repeat (first | (with_reducible exact List.mem_cons_self) | with_reducible apply List.mem_cons_of_mem)) : RowT 65 5 (.slice (some ⟨bb, bo, none⟩) m d) m (linL L) ∈ _))
      clear hry hR hdr hy hkL
      by_cases e1 : ry = rx
      · have b1 : (ry == rx) = true := by simpa using e1
        have HV := Lib.hid (show D ++ setR x (L.drop (k + 1)) f = setR x L (decide (x.lim = 0)) by rw [← HRR.out, setR_skip (by rw [HRY.out, HRX.out, e1])])
        clear e1 HRR
        go_wp2_with (first
          | go_skip
          | ((with_reducible show wpList _ _ _ (_ :: _) _ _); (with_reducible apply wpl_loadCH); (· exact cell_lins); (· rfl); (· rfl); (· exact H); (· (repeat (first | (with_reducible exact List.mem_cons_self) | with_reducible apply List.mem_cons_of_mem))); (· exact refA_g1 ..); (simp only [Act.put, List.setIfInBounds_toArray, List.set_cons_zero, List.set_cons_succ]))
          | ((with_reducible show wpList _ _ _ (_ :: _) _ _); (with_reducible apply wpl_loadRdR row_line); (· rfl); (· rfl); (· exact HRD.out); (· rfl); (· exact hlen); (· decide); (· exact hrow); (simp only [Act.put, List.setIfInBounds_toArray, List.set_cons_zero, List.set_cons_succ]))
          | ((with_reducible show wpList _ _ _ (_ :: _) _ _); (with_reducible apply wpl_allocRH row_line); (· rfl); (· exact H); (clear H; intro py _ H); (simp only [Act.put, List.setIfInBounds_toArray, List.set_cons_zero, List.set_cons_succ]))
          | ((with_reducible show wpList _ _ _ (_ :: _) _ _); (with_reducible apply wpl_storeRH row_line); (· rfl); (· rfl); (· rfl); (· with_reducible exact line_cells ..); (· exact H); (· (repeat (first | (with_reducible exact List.mem_cons_self) | with_reducible apply List.mem_cons_of_mem))); (· (simp only [line_sz, Nat.reduceAdd, Nat.reduceLeDiff, Nat.le_refl]; done)); (· with_reducible exact line_splice ..); (· (repeat (first | (with_reducible exact Repl.here) | with_reducible apply Repl.there))); (clear H; intro _ H); (simp only [Act.put, List.setIfInBounds_toArray, List.set_cons_zero, List.set_cons_succ])))
        refine wp_region_H H (by kernel_rfl) (by kernel_rfl) ?_
        repeat (first | go_big_quiet_skip | ((with_reducible apply wpQ_loadRH row_line); (· rfl); (· rfl); (· (repeat (first | (with_reducible exact List.mem_cons_self) | with_reducible apply List.mem_cons_of_mem))); (· (simp only [line_sz, Nat.reduceAdd, Nat.reduceLeDiff, Nat.le_refl]; done)); (· with_reducible exact line_all ..); (simp only [Act.put, List.setIfInBounds_toArray, List.set_cons_zero, List.set_cons_succ])) | go_big_quiet_step ((with_reducible first | exact AnsH.quiet (by assumption) | exact Ans.quietH (by assumption))))
        refine wpQuiet_nil ?_
        clear H
        intro _ H
        go_wp2_with (go_skip)
        refine ⟨⟨k + 1, f, D, by omega, by go_num, rfl, by omega, HV.out, H.tail⟩, ?measure⟩
        case measure => simp [intOf]; omega
      · have b1 : (ry == rx) = false := by simpa using e1
        have HNE := Lib.hid (show y.rank ≠ x.rank by rw [HRY.out, HRX.out]; exact e1)
        clear e1
        cases f
        · by_cases e2 : rx < ry
          · have b2 : decide (rx < ry) = true := decide_eq_true e2
            have b3 : decide (ry > rx) = true := decide_eq_true e2
            have HV := Lib.hid (show D ++ [x] ++ [y] ++ setR x (L.drop (k + 1)) true = setR x L (decide (x.lim = 0)) by rw [← HRR.out, setR_put (by rw [HRY.out, HRX.out]; exact e2)]; simp)
            clear e2 HRR
            go_wp2_with (first
              | go_skip
              | ((with_reducible show wpList _ _ _ (_ :: _) _ _); (with_reducible apply wpl_loadCH); (· exact cell_lins); (· rfl); (· rfl); (· exact H); (· (repeat (first | (with_reducible exact List.mem_cons_self) | with_reducible apply List.mem_cons_of_mem))); (· exact refA_g1 ..); (simp only [Act.put, List.setIfInBounds_toArray, List.set_cons_zero, List.set_cons_succ]))
              | ((with_reducible show wpList _ _ _ (_ :: _) _ _); (with_reducible apply wpl_loadRdR row_line); (· rfl); (· rfl); (· exact HRD.out); (· rfl); (· exact hlen); (· decide); (· exact hrow); (simp only [Act.put, List.setIfInBounds_toArray, List.set_cons_zero, List.set_cons_succ]))
              | ((with_reducible show wpList _ _ _ (_ :: _) _ _); (with_reducible apply wpl_allocRH row_line); (· rfl); (· exact H); (clear H; intro py _ H); (simp only [Act.put, List.setIfInBounds_toArray, List.set_cons_zero, List.set_cons_succ]))
              | ((with_reducible show wpList _ _ _ (_ :: _) _ _); (with_reducible apply wpl_storeRH row_line); (· rfl); (· rfl); (· rfl); (· with_reducible exact line_cells ..); (· exact H); (· (repeat (first | (with_reducible exact List.mem_cons_self) | with_reducible apply List.mem_cons_of_mem))); (· (simp only [line_sz, Nat.reduceAdd, Nat.reduceLeDiff, Nat.le_refl]; done)); (· with_reducible exact line_splice ..); (· (repeat (first | (with_reducible exact Repl.here) | with_reducible apply Repl.there))); (clear H; intro _ H); (simp only [Act.put, List.setIfInBounds_toArray, List.set_cons_zero, List.set_cons_succ])))
            refine wp_region_H H (by kernel_rfl) (by kernel_rfl) ?_
            repeat (first | go_big_quiet_skip | ((with_reducible apply wpQ_loadRH row_line); (· rfl); (· rfl); (· (repeat (first | (with_reducible exact List.mem_cons_self) | with_reducible apply List.mem_cons_of_mem))); (· (simp only [line_sz, Nat.reduceAdd, Nat.reduceLeDiff, Nat.le_refl]; done)); (· with_reducible exact line_all ..); (simp only [Act.put, List.setIfInBounds_toArray, List.set_cons_zero, List.set_cons_succ])) | go_big_quiet_step ((with_reducible first | exact AnsH.quiet (by assumption) | exact Ans.quietH (by assumption))))
            refine wpQuiet_nil ?_
            clear H
            intro _ H
            go_wp2_with (go_skip)
            refine wp_region_H H (by kernel_rfl) (by kernel_rfl) ?_
            repeat (first | go_big_quiet_skip | ((with_reducible apply wpQ_loadRH row_line); (· rfl); (· rfl); (· (repeat (first | (with_reducible exact List.mem_cons_self) | with_reducible apply List.mem_cons_of_mem))); (· (simp only [line_sz, Nat.reduceAdd, Nat.reduceLeDiff, Nat.le_refl]; done)); (· with_reducible exact line_all ..); (simp only [Act.put, List.setIfInBounds_toArray, List.set_cons_zero, List.set_cons_succ])) | go_big_quiet_step ((with_reducible first | exact AnsH.quiet (by assumption) | exact Ans.quietH (by assumption))))
            refine wpQuiet_nil ?_
            clear H
            intro _ H
            go_wp2_with (first
              | ((with_reducible show wpList _ _ _ (_ :: _) _ _); (with_reducible apply wpl_appendH slLin); (· rfl); (· rfl); (· rfl); (· rfl); (· with_reducible first | exact H.pull (.there (.there .here)) | exact H.pull (.there .here)); (· exact H.celRd List.mem_cons_self); (· rfl); (· exact line_one _ _ _ _ _); (· with_reducible first | exact hD1 | exact hD3); (· with_reducible first | exact hD2 | exact hD4); (clear H; intro v2 _ H); (simp only [Act.put, List.setIfInBounds_toArray, List.set_cons_zero, List.set_cons_succ]))
              | ((with_reducible show wpList _ _ _ (_ :: _) _ _); (with_reducible apply wpl_bsRH); (· rfl); (· rfl); (· exact bs_line); (· exact rfl); (· exact H); (clear H; intro pl _ H); (simp only [Act.put, List.setIfInBounds_toArray, List.set_cons_zero, List.set_cons_succ]))
              | go_skip
              | ((with_reducible show wpList _ _ _ (_ :: _) _ _); (with_reducible apply wpl_loadRH row_line); (· rfl); (· rfl); (· exact H); (· (repeat (first | (with_reducible exact List.mem_cons_self) | with_reducible apply List.mem_cons_of_mem))); (· (simp only [line_sz, Nat.reduceAdd, Nat.reduceLeDiff, Nat.le_refl]; done)); (· with_reducible exact line_all ..); (simp only [Act.put, List.setIfInBounds_toArray, List.set_cons_zero, List.set_cons_succ])))
            rw [linL_snoc, linL_snoc] at H
            replace H := ((H.drop (.there .here)).drop (.there .here)).drop (.there .here)
            rw [len_snoc, len_snoc] at H
            refine ⟨⟨k + 1, true, D ++ [x] ++ [y], by omega, by go_num, rfl, by simp; omega, HV.out, H⟩, ?measure2⟩
            case measure2 => simp [intOf]; omega
          · have b2 : decide (rx < ry) = false := decide_eq_false e2
            have b3 : decide (ry > rx) = false := decide_eq_false e2
            have HV := Lib.hid (show D ++ [y] ++ setR x (L.drop (k + 1)) false = setR x L (decide (x.lim = 0)) by rw [← HRR.out, setR_on HNE.out (.inr (by rw [HRY.out, HRX.out]; exact e2))]; simp)
            clear e2 HRR
            go_wp2_with (first
              | go_skip
              | ((with_reducible show wpList _ _ _ (_ :: _) _ _); (with_reducible apply wpl_loadCH); (· exact cell_lins); (· rfl); (· rfl); (· exact H); (· (repeat (first | (with_reducible exact List.mem_cons_self) | with_reducible apply List.mem_cons_of_mem))); (· exact refA_g1 ..); (simp only [Act.put, List.setIfInBounds_toArray, List.set_cons_zero, List.set_cons_succ]))
              | ((with_reducible show wpList _ _ _ (_ :: _) _ _); (with_reducible apply wpl_loadRdR row_line); (· rfl); (· rfl); (· exact HRD.out); (· rfl); (· exact hlen); (· decide); (· exact hrow); (simp only [Act.put, List.setIfInBounds_toArray, List.set_cons_zero, List.set_cons_succ]))
              | ((with_reducible show wpList _ _ _ (_ :: _) _ _); (with_reducible apply wpl_allocRH row_line); (· rfl); (· exact H); (clear H; intro py _ H); (simp only [Act.put, List.setIfInBounds_toArray, List.set_cons_zero, List.set_cons_succ]))
              | ((with_reducible show wpList _ _ _ (_ :: _) _ _); (with_reducible apply wpl_storeRH row_line); (· rfl); (· rfl); (· rfl); (· with_reducible exact line_cells ..); (· exact H); (· (repeat (first | (with_reducible exact List.mem_cons_self) | with_reducible apply List.mem_cons_of_mem))); (· (simp only [line_sz, Nat.reduceAdd, Nat.reduceLeDiff, Nat.le_refl]; done)); (· with_reducible exact line_splice ..); (· (repeat (first | (with_reducible exact Repl.here) | with_reducible apply Repl.there))); (clear H; intro _ H); (simp only [Act.put, List.setIfInBounds_toArray, List.set_cons_zero, List.set_cons_succ])))
            refine wp_region_H H (by kernel_rfl) (by kernel_rfl) ?_
            repeat (first | go_big_quiet_skip | ((with_reducible apply wpQ_loadRH row_line); (· rfl); (· rfl); (· (repeat (first | (with_reducible exact List.mem_cons_self) | with_reducible apply List.mem_cons_of_mem))); (· (simp only [line_sz, Nat.reduceAdd, Nat.reduceLeDiff, Nat.le_refl]; done)); (· with_reducible exact line_all ..); (simp only [Act.put, List.setIfInBounds_toArray, List.set_cons_zero, List.set_cons_succ])) | go_big_quiet_step ((with_reducible first | exact AnsH.quiet (by assumption) | exact Ans.quietH (by assumption))))
            refine wpQuiet_nil ?_
            clear H
            intro _ H
            go_wp2_with (go_skip)
            refine wp_region_H H (by kernel_rfl) (by kernel_rfl) ?_
            repeat (first | go_big_quiet_skip | ((with_reducible apply wpQ_loadRH row_line); (· rfl); (· rfl); (· (repeat (first | (with_reducible exact List.mem_cons_self) | with_reducible apply List.mem_cons_of_mem))); (· (simp only [line_sz, Nat.reduceAdd, Nat.reduceLeDiff, Nat.le_refl]; done)); (· with_reducible exact line_all ..); (simp only [Act.put, List.setIfInBounds_toArray, List.set_cons_zero, List.set_cons_succ])) | go_big_quiet_step ((with_reducible first | exact AnsH.quiet (by assumption) | exact Ans.quietH (by assumption))))
            refine wpQuiet_nil ?_
            clear H
            intro _ H
            go_wp2_with (first
              | ((with_reducible show wpList _ _ _ (_ :: _) _ _); (with_reducible apply wpl_appendH slLin); (· rfl); (· rfl); (· rfl); (· rfl); (· with_reducible first | exact H.pull (.there (.there .here)) | exact H.pull (.there .here)); (· exact H.celRd List.mem_cons_self); (· rfl); (· exact line_one _ _ _ _ _); (· with_reducible first | exact hD1 | exact hD3); (· with_reducible first | exact hD2 | exact hD4); (clear H; intro v2 _ H); (simp only [Act.put, List.setIfInBounds_toArray, List.set_cons_zero, List.set_cons_succ]))
              | ((with_reducible show wpList _ _ _ (_ :: _) _ _); (with_reducible apply wpl_bsRH); (· rfl); (· rfl); (· exact bs_line); (· exact rfl); (· exact H); (clear H; intro pl _ H); (simp only [Act.put, List.setIfInBounds_toArray, List.set_cons_zero, List.set_cons_succ]))
              | go_skip
              | ((with_reducible show wpList _ _ _ (_ :: _) _ _); (with_reducible apply wpl_loadRH row_line); (· rfl); (· rfl); (· exact H); (· (repeat (first | (with_reducible exact List.mem_cons_self) | with_reducible apply List.mem_cons_of_mem))); (· (simp only [line_sz, Nat.reduceAdd, Nat.reduceLeDiff, Nat.le_refl]; done)); (· with_reducible exact line_all ..); (simp only [Act.put, List.setIfInBounds_toArray, List.set_cons_zero, List.set_cons_succ])))
            rw [linL_snoc] at H
            replace H := (H.drop (.there .here)).drop (.there .here)
            rw [len_snoc] at H
            refine ⟨⟨k + 1, false, D ++ [y], by omega, by go_num, rfl, by simp; omega, HV.out, H⟩, ?measure3⟩
            case measure3 => simp [intOf]; omega
        · have HV := Lib.hid (show D ++ [y] ++ setR x (L.drop (k + 1)) true = setR x L (decide (x.lim = 0)) by rw [← HRR.out, setR_on HNE.out (.inl rfl)]; simp)
          clear HRR
          go_wp2_with (first
            | go_skip
            | ((with_reducible show wpList _ _ _ (_ :: _) _ _); (with_reducible apply wpl_loadCH); (· exact cell_lins); (· rfl); (· rfl); (· exact H); (· (repeat (first | (with_reducible exact List.mem_cons_self) | with_reducible apply List.mem_cons_of_mem))); (· exact refA_g1 ..); (simp only [Act.put, List.setIfInBounds_toArray, List.set_cons_zero, List.set_cons_succ]))
            | ((with_reducible show wpList _ _ _ (_ :: _) _ _); (with_reducible apply wpl_loadRdR row_line); (· rfl); (· rfl); (· exact HRD.out); (· rfl); (· exact hlen); (· decide); (· exact hrow); (simp only [Act.put, List.setIfInBounds_toArray, List.set_cons_zero, List.set_cons_succ]))
            | ((with_reducible show wpList _ _ _ (_ :: _) _ _); (with_reducible apply wpl_allocRH row_line); (· rfl); (· exact H); (clear H; intro py _ H); (simp only [Act.put, List.setIfInBounds_toArray, List.set_cons_zero, List.set_cons_succ]))
            | ((with_reducible show wpList _ _ _ (_ :: _) _ _); (with_reducible apply wpl_storeRH row_line); (· rfl); (· rfl); (· rfl); (· with_reducible exact line_cells ..); (· exact H); (· (repeat (first | (with_reducible exact List.mem_cons_self) | with_reducible apply List.mem_cons_of_mem))); (· (simp only [line_sz, Nat.reduceAdd, Nat.reduceLeDiff, Nat.le_refl]; done)); (· with_reducible exact line_splice ..); (· (repeat (first | (with_reducible exact Repl.here) | with_reducible apply Repl.there))); (clear H; intro _ H); (simp only [Act.put, List.setIfInBounds_toArray, List.set_cons_zero, List.set_cons_succ])))
          refine wp_region_H H (by kernel_rfl) (by kernel_rfl) ?_
          repeat (first | go_big_quiet_skip | ((with_reducible apply wpQ_loadRH row_line); (· rfl); (· rfl); (· (repeat (first | (with_reducible exact List.mem_cons_self) | with_reducible apply List.mem_cons_of_mem))); (· (simp only [line_sz, Nat.reduceAdd, Nat.reduceLeDiff, Nat.le_refl]; done)); (· with_reducible exact line_all ..); (simp only [Act.put, List.setIfInBounds_toArray, List.set_cons_zero, List.set_cons_succ])) | go_big_quiet_step ((with_reducible first | exact AnsH.quiet (by assumption) | exact Ans.quietH (by assumption))))
          refine wpQuiet_nil ?_
          clear H
          intro _ H
          go_wp2_with (go_skip)
          refine wp_region_H H (by kernel_rfl) (by kernel_rfl) ?_
          repeat (first | go_big_quiet_skip | ((with_reducible apply wpQ_loadRH row_line); (· rfl); (· rfl); (· (repeat (first | (with_reducible exact List.mem_cons_self) | with_reducible apply List.mem_cons_of_mem))); (· (simp only [line_sz, Nat.reduceAdd, Nat.reduceLeDiff, Nat.le_refl]; done)); (· with_reducible exact line_all ..); (simp only [Act.put, List.setIfInBounds_toArray, List.set_cons_zero, List.set_cons_succ])) | go_big_quiet_step ((with_reducible first | exact AnsH.quiet (by assumption) | exact Ans.quietH (by assumption))))
          refine wpQuiet_nil ?_
          clear H
          intro _ H
          go_wp2_with (first
            | ((with_reducible show wpList _ _ _ (_ :: _) _ _); (with_reducible apply wpl_appendH slLin); (· rfl); (· rfl); (· rfl); (· rfl); (· with_reducible first | exact H.pull (.there (.there .here)) | exact H.pull (.there .here)); (· exact H.celRd List.mem_cons_self); (· rfl); (· exact line_one _ _ _ _ _); (· with_reducible first | exact hD1 | exact hD3); (· with_reducible first | exact hD2 | exact hD4); (clear H; intro v2 _ H); (simp only [Act.put, List.setIfInBounds_toArray, List.set_cons_zero, List.set_cons_succ]))
            | ((with_reducible show wpList _ _ _ (_ :: _) _ _); (with_reducible apply wpl_bsRH); (· rfl); (· rfl); (· exact bs_line); (· exact rfl); (· exact H); (clear H; intro pl _ H); (simp only [Act.put, List.setIfInBounds_toArray, List.set_cons_zero, List.set_cons_succ]))
            | go_skip
            | ((with_reducible show wpList _ _ _ (_ :: _) _ _); (with_reducible apply wpl_loadRH row_line); (· rfl); (· rfl); (· exact H); (· (repeat (first | (with_reducible exact List.mem_cons_self) | with_reducible apply List.mem_cons_of_mem))); (· (simp only [line_sz, Nat.reduceAdd, Nat.reduceLeDiff, Nat.le_refl]; done)); (· with_reducible exact line_all ..); (simp only [Act.put, List.setIfInBounds_toArray, List.set_cons_zero, List.set_cons_succ])))
          rw [linL_snoc] at H
          replace H := (H.drop (.there .here)).drop (.there .here)
          rw [len_snoc] at H
          refine ⟨⟨k + 1, true, D ++ [y], by omega, by go_num, rfl, by simp; omega, HV.out, H⟩, ?measure4⟩
          case measure4 => simp [intOf]; omega
    · obtain rfl : k = m := by omega
      have hE : L.drop k = [] := List.drop_eq_nil_of_le (by omega)
      rw [hE] at hR
      have hD1 : D.length + 1 ≤ maxLen := by unfold maxLen; omega
      have hD2 : (D.length + 1) * 24 ≤ 140737488355328 := by omega
      have HRR := Lib.hid hR
      clear hE hR
      cases f
      · have HV := Lib.hid (show D ++ [x] = setL L x by rw [← HS.out.1, ← HRR.out, setR]; rfl)
        clear HRR
        go_wp2_with (first
          | ((with_reducible show wpList _ _ _ (_ :: _) _ _); (with_reducible apply wpl_appendH slLin); (· rfl); (· rfl); (· rfl); (· rfl); (· exact H.pull (.there .here)); (· exact H.celRd List.mem_cons_self); (· rfl); (· exact line_one _ _ _ _ _); (· exact hD1); (· exact hD2); (clear H; intro v2 _ H; obtain ⟨a2, c2, rfl, _, _⟩ := RowT.form0 (H.ok _ List.mem_cons_self)); (simp only [Act.put, List.setIfInBounds_toArray, List.set_cons_zero, List.set_cons_succ]))
          | ((with_reducible show wpList _ _ _ (_ :: _) _ _); (with_reducible apply wpl_bsRH); (· rfl); (· rfl); (· exact bs_line); (· exact rfl); (· exact H); (clear H; intro pl _ H); (simp only [Act.put, List.setIfInBounds_toArray, List.set_cons_zero, List.set_cons_succ]))
          | go_skip
          | ((with_reducible show wpList _ _ _ (_ :: _) _ _); (with_reducible apply wpl_loadCH); (· exact cell_lins); (· rfl); (· rfl); (· exact H); (· (repeat (first | (with_reducible exact List.mem_cons_self) | with_reducible apply List.mem_cons_of_mem))); (· exact refA_g1 ..); (simp only [Act.put, List.setIfInBounds_toArray, List.set_cons_zero, List.set_cons_succ]))
          | ((with_reducible show wpList _ _ _ (_ :: _) _ _); (with_reducible apply wpl_loadRH row_line); (· rfl); (· rfl); (· exact H); (· (repeat (first | (with_reducible exact List.mem_cons_self) | with_reducible apply List.mem_cons_of_mem))); (· (simp only [line_sz, Nat.reduceAdd, Nat.reduceLeDiff, Nat.le_refl]; done)); (· with_reducible exact line_all ..); (simp only [Act.put, List.setIfInBounds_toArray, List.set_cons_zero, List.set_cons_succ]))
          | ((with_reducible show wpList _ _ _ (_ :: _) _ _); (with_reducible apply wpl_storeSH); (· exact cell_lins); (· rfl); (· rfl); (· rfl); (· exact H); (· (repeat (first | (with_reducible exact List.mem_cons_self) | with_reducible apply List.mem_cons_of_mem))); (· exact refA_lt1 ..); (· exact refA_s1 ..); (· (repeat (first | (with_reducible exact Repl.here) | with_reducible apply Repl.there))); (clear H; intro _ H); (simp only [Act.put, List.setIfInBounds_toArray, List.set_cons_zero, List.set_cons_succ])))
        go_end0
        rw [linL_snoc, HV.out] at H
        exact ⟨rfl, a, n, c, a2, D.length + 1, c2, HS.out.2.1, by rw [← HV.out]; simp, (((H.drop (.there .here)).drop (.there .here)).drop (.there (.there (.there .here)))).perm ((List.Perm.swap _ _ _).trans (List.Perm.cons _ (List.Perm.swap _ _ _)))⟩
      · have HV := Lib.hid (show D = setL L x by rw [← HS.out.1, ← HRR.out, setR]; simp)
        clear HRR
        obtain ⟨a2, c2, rfl, _, _⟩ := RowT.form0 (H.ok _ List.mem_cons_self)
        go_wp2_with (first
          | go_skip
          | ((with_reducible show wpList _ _ _ (_ :: _) _ _); (with_reducible apply wpl_loadCH); (· exact cell_lins); (· rfl); (· rfl); (· exact H); (· (repeat (first | (with_reducible exact List.mem_cons_self) | with_reducible apply List.mem_cons_of_mem))); (· exact refA_g1 ..); (simp only [Act.put, List.setIfInBounds_toArray, List.set_cons_zero, List.set_cons_succ]))
          | ((with_reducible show wpList _ _ _ (_ :: _) _ _); (with_reducible apply wpl_storeSH); (· exact cell_lins); (· rfl); (· rfl); (· rfl); (· exact H); (· (repeat (first | (with_reducible exact List.mem_cons_self) | with_reducible apply List.mem_cons_of_mem))); (· exact refA_lt1 ..); (· exact refA_s1 ..); (· (repeat (first | (with_reducible exact Repl.here) | with_reducible apply Repl.there))); (clear H; intro _ H); (simp only [Act.put, List.setIfInBounds_toArray, List.set_cons_zero, List.set_cons_succ])))
        go_end0
        rw [HV.out] at H
        exact ⟨rfl, a, n, c, a2, (setL L x).length, c2, HS.out.2.1, rfl, ((H.drop (.there .here)).drop (.there (.there (.there .here)))).perm ((List.Perm.swap _ _ _).trans (List.Perm.cons _ (List.Perm.swap _ _ _)))⟩
end
end Go.Proofs.YtgobnamhdkbbeaaGreat

/- countinghouseref03: at, Line, Room. -/
namespace Go.Proofs.YtgobnamhdkbbeaaGreat
open Go.RowKit
set_option linter.unusedSimpArgs false
set_option linter.unusedVariables false
theorem linL_get? {L : List Lin} {k : Nat} {x : Lin} (h : L[k]? = some x) {j : Nat} (hj : j < 5) : (linL L)[k * 5 + j]? = (linV x)[j]? := by
  obtain ⟨hk, rfl⟩ := List.getElem?_eq_some_iff.1 h
  rw [← linL_at L k hk, List.getElem?_take, if_pos hj, List.getElem?_drop]
theorem rd_lin {w : World} {L : List Lin} {b o k : Nat} {x : Lin} (R : Rd w (some ⟨b, o, none⟩) (linL L)) (h : L[k]? = some x) :
    w.cell? ⟨b, o + k * 5, none⟩ = some (.int .u8 x.cr) ∧ w.cell? ⟨b, o + k * 5 + 1, none⟩ = some (.int .u8 x.db) ∧ w.cell? ⟨b, o + k * 5 + 2, none⟩ = some (.int .u8 x.cu) ∧ w.cell? ⟨b, o + k * 5 + 3, none⟩ = some (.int .i64 x.lim) ∧ w.cell? ⟨b, o + k * 5 + 4, none⟩ = some (.int .i64 x.deb) := by
  have key : ∀ (j : Nat) (v : Value), j < 5 → (linV x)[j]? = some v → w.cell? ⟨b, o + k * 5 + j, none⟩ = some v := fun j v hj hv => by
    have h2 := linL_get? h hj
    rw [hv] at h2
    obtain ⟨hi, e⟩ := List.getElem?_eq_some_iff.1 h2
    have := R.get hi
    rw [e] at this
    rw [Nat.add_assoc]
    exact this
  exact ⟨key 0 _ (by omega) rfl, key 1 _ (by omega) rfl, key 2 _ (by omega) rfl, key 3 _ (by omega) rfl, key 4 _ (by omega) rfl⟩
/-- Where a line is. -/
def AtR (L : List Lin) (cr db cu k : Int) : Prop := (k = -1 ∧ lineOf L cr db cu = none) ∨ ∃ (j : Nat) (x : Lin), k = (j : Int) ∧ L[j]? = some x ∧ lineOf L cr db cu = some x
theorem lineOf_first {L : List Lin} {cr db cu : Int} {k : Nat} {x : Lin} (h : ∀ y ∈ L.take k, y.at cr db cu = false) (hx : L[k]? = some x) (ha : x.at cr db cu = true) : lineOf L cr db cu = some x := by
  obtain ⟨hk, rfl⟩ := List.getElem?_eq_some_iff.1 hx
  unfold lineOf
  conv => lhs; rw [← List.take_append_drop k L]
  rw [List.find?_append, List.find?_eq_none.2 (fun y hy => by rw [h y hy]; exact Bool.false_ne_true), Option.none_or, List.drop_eq_getElem_cons hk, List.find?_cons]
  simp [ha]
theorem lineOf_nothing {L : List Lin} {cr db cu : Int} (h : ∀ y ∈ L, y.at cr db cu = false) : lineOf L cr db cu = none := List.find?_eq_none.2 (fun y hy => by rw [h y hy]; exact Bool.false_ne_true)
structure AtLoop (W : World) (l : List Thing) (L : List Lin) (cr db cu : Int) (i : Value) (wr : World) : Prop where
  out : ∃ k : Nat, k ≤ L.length ∧ i = .int .i64 (k : Int) ∧ (∀ y ∈ L.take k, y.at cr db cu = false) ∧ Heap W l wr
/-- The ledger's things among others. -/
def RefM (l : List Thing) (p : Nat) (S : Lgr) : Prop := ∃ a n c b m d, S.P.length = n ∧ S.L.length = m ∧ RefC p (.slice a n c) (.slice b m d) ∈ l ∧ RowT 30 1 (.slice a n c) n (pI S.P) ∈ l ∧ RowT 65 5 (.slice b m d) m (linL S.L) ∈ l
theorem RefM.more {l l' : List Thing} {p : Nat} {S : Lgr} (h : RefM l p S) (hs : ∀ x ∈ l, x ∈ l') : RefM l' p S := by
  obtain ⟨a, n, c, b, m, d, h1, h2, m1, m2, m3⟩ := h
  exact ⟨a, n, c, b, m, d, h1, h2, hs _ m1, hs _ m2, hs _ m3⟩
section
variable {W w : World} {l : List Thing} {p : Nat} {S : Lgr}
set_option maxRecDepth 100000
set_option maxHeartbeats 8000000
theorem rat_H (f t c : Nat) (M : RefM l p S) (hf : f ≤ 255) (ht : t ≤ 255) (hc : c ≤ 255) (hm64 : S.L.length ≤ 1000000) (H : Heap W l w) :
    Calls Tryz.prog 58 #[.pointer (some ⟨p, 0, none⟩), .int .u8 (f : Int), .int .u8 (t : Int), .int .u8 (c : Int)] w fun e w' => ∃ k : Int, e = .returned (.int .i64 k) ∧ AtR S.L f t c k ∧ Heap W l w' := by
  obtain ⟨a, n, cc, b, m, d, h1, h2, m1, m2, m3⟩ := M
  have HR := Lib.hid (show ∀ w', Heap W l w' → Rd w' b (linL S.L) from fun w' h => h.rowRd m3)
  have HL := Lib.hid h2
  rw [h2] at hm64
  clear h1 h2 m2 m3
  go_enter Tryz.func58, Tryz.ntmps58
  go_wp2_with (go_skip)
  have H0 := H
  clear H
  go_loopw [9] (fun i wr => AtLoop W l S.L f t c i wr) (fun i _ => m - (intOf i).toNat)
  case atStart => exact ⟨0, Nat.zero_le _, rfl, by simp, H0⟩
  case round =>
    obtain ⟨k, hk, rfl, hno, H⟩ := hrel.out
    clear H0 hrel
    rw [HL.out] at hk
    have HNO := Lib.hid hno
    clear hno
    by_cases hlt : k < m
    · have hkL : k < S.L.length := by rw [HL.out]; exact hlt
      obtain ⟨y, hy⟩ : ∃ y, S.L[k]? = some y := ⟨S.L[k], List.getElem?_eq_getElem hkL⟩
      obtain ⟨bb, o, rfl, _⟩ := (HR.out _ H).lt (by rw [linL_len, HL.out]; omega)
      have HC := Lib.hid (show ∀ w', Heap W l w' → _ from fun w' h => rd_lin (HR.out w' h) hy)
      have htk : S.L.take (k + 1) = S.L.take k ++ [y] := by rw [List.take_add_one, hy]; rfl
      have HNX := Lib.hid (show y.at f t c = false → ∀ z ∈ S.L.take (k + 1), z.at f t c = false from fun h z hz => by
        rw [htk] at hz
        rcases List.mem_append.1 hz with hz | hz
        · exact HNO.out z hz
        · rw [List.mem_singleton.1 hz]; exact h)
      have HY := Lib.hid hy
      clear hy htk hkL
      by_cases e1 : y.cr = f
      · by_cases e2 : y.db = t
        · by_cases e3 : y.cu = c
          · have b1 : (y.cr == (f : Int)) = true := by simpa using e1
            have b2 : (y.db == (t : Int)) = true := by simpa using e2
            have b3 : (y.cu == (c : Int)) = true := by simpa using e3
            have HA := Lib.hid (show y.at f t c = true from Lin.at_iff.2 ⟨e1, e2, e3⟩)
            clear e1 e2 e3 HNX
            go_wp2_with (first
              | go_skip
              | ((with_reducible show wpList _ _ _ (_ :: _) _ _); (with_reducible apply wpl_loadCH); (· exact cell_lins); (· rfl); (· rfl); (· exact H); (· exact m1); (· exact refA_g1 ..); (simp only [Act.put, List.setIfInBounds_toArray, List.set_cons_zero, List.set_cons_succ]))
              | ((with_reducible show wpList _ _ _ (_ :: _) _ _); (with_reducible apply wpl_loadCell); (· first | exact cell_party | exact cell_cur); (· rfl); (· rfl); (· first | exact (HC.out _ H).1 | exact (HC.out _ H).2.1 | exact (HC.out _ H).2.2.1); (simp only [Act.put, List.setIfInBounds_toArray, List.set_cons_zero, List.set_cons_succ])))
            go_ret
            exact ⟨(k : Int), rfl, .inr ⟨k, y, rfl, HY.out, lineOf_first HNO.out HY.out HA.out⟩, H⟩
          · have b1 : (y.cr == (f : Int)) = true := by simpa using e1
            have b2 : (y.db == (t : Int)) = true := by simpa using e2
            have b3 : (y.cu == (c : Int)) = false := by simpa using e3
            have HA := Lib.hid (show y.at f t c = false from Lin.at_not.2 fun h => e3 h.2.2)
            clear e1 e2 e3
            go_wp2_with (first
              | go_skip
              | ((with_reducible show wpList _ _ _ (_ :: _) _ _); (with_reducible apply wpl_loadCH); (· exact cell_lins); (· rfl); (· rfl); (· exact H); (· exact m1); (· exact refA_g1 ..); (simp only [Act.put, List.setIfInBounds_toArray, List.set_cons_zero, List.set_cons_succ]))
              | ((with_reducible show wpList _ _ _ (_ :: _) _ _); (with_reducible apply wpl_loadCell); (· first | exact cell_party | exact cell_cur); (· rfl); (· rfl); (· first | exact (HC.out _ H).1 | exact (HC.out _ H).2.1 | exact (HC.out _ H).2.2.1); (simp only [Act.put, List.setIfInBounds_toArray, List.set_cons_zero, List.set_cons_succ])))
            refine ⟨⟨k + 1, by rw [HL.out]; omega, by go_num, HNX.out HA.out, H⟩, ?measure⟩
            case measure => simp [intOf]; omega
        · have b1 : (y.cr == (f : Int)) = true := by simpa using e1
          have b2 : (y.db == (t : Int)) = false := by simpa using e2
          have HA := Lib.hid (show y.at f t c = false from Lin.at_not.2 fun h => e2 h.2.1)
          clear e1 e2
          go_wp2_with (first
            | go_skip
            | ((with_reducible show wpList _ _ _ (_ :: _) _ _); (with_reducible apply wpl_loadCH); (· exact cell_lins); (· rfl); (· rfl); (· exact H); (· exact m1); (· exact refA_g1 ..); (simp only [Act.put, List.setIfInBounds_toArray, List.set_cons_zero, List.set_cons_succ]))
            | ((with_reducible show wpList _ _ _ (_ :: _) _ _); (with_reducible apply wpl_loadCell); (· first | exact cell_party | exact cell_cur); (· rfl); (· rfl); (· first | exact (HC.out _ H).1 | exact (HC.out _ H).2.1 | exact (HC.out _ H).2.2.1); (simp only [Act.put, List.setIfInBounds_toArray, List.set_cons_zero, List.set_cons_succ])))
          refine ⟨⟨k + 1, by rw [HL.out]; omega, by go_num, HNX.out HA.out, H⟩, ?measure2⟩
          case measure2 => simp [intOf]; omega
      · have b1 : (y.cr == (f : Int)) = false := by simpa using e1
        have HA := Lib.hid (show y.at f t c = false from Lin.at_not.2 fun h => e1 h.1)
        clear e1
        go_wp2_with (first
          | go_skip
          | ((with_reducible show wpList _ _ _ (_ :: _) _ _); (with_reducible apply wpl_loadCH); (· exact cell_lins); (· rfl); (· rfl); (· exact H); (· exact m1); (· exact refA_g1 ..); (simp only [Act.put, List.setIfInBounds_toArray, List.set_cons_zero, List.set_cons_succ]))
          | ((with_reducible show wpList _ _ _ (_ :: _) _ _); (with_reducible apply wpl_loadCell); (· first | exact cell_party | exact cell_cur); (· rfl); (· rfl); (· first | exact (HC.out _ H).1 | exact (HC.out _ H).2.1 | exact (HC.out _ H).2.2.1); (simp only [Act.put, List.setIfInBounds_toArray, List.set_cons_zero, List.set_cons_succ])))
        refine ⟨⟨k + 1, by rw [HL.out]; omega, by go_num, HNX.out HA.out, H⟩, ?measure3⟩
        case measure3 => simp [intOf]; omega
    · obtain rfl : k = m := by omega
      go_wp2_with (first
        | go_skip
        | ((with_reducible show wpList _ _ _ (_ :: _) _ _); (with_reducible apply wpl_loadCH); (· exact cell_lins); (· rfl); (· rfl); (· exact H); (· exact m1); (· exact refA_g1 ..); (simp only [Act.put, List.setIfInBounds_toArray, List.set_cons_zero, List.set_cons_succ])))
      go_ret
      exact ⟨-1, rfl, .inl ⟨rfl, lineOf_nothing (by have := HNO.out; rwa [List.take_of_length_le (by rw [HL.out]; exact Nat.le_refl _)] at this)⟩, H⟩
theorem rline_H (f t c : Nat) (M : RefM l p S) (hf : f ≤ 255) (ht : t ≤ 255) (hc : c ≤ 255) (hm64 : S.L.length ≤ 1000000) : AnsH W l 33 #[.pointer (some ⟨p, 0, none⟩), .int .u8 (f : Int), .int .u8 (t : Int), .int .u8 (c : Int)] (.tuple #[.agg (lineC S.L f t c), .bool (isLine S.L f t c)]) := by
  intro w H
  have HA := Lib.hid (show ∀ (x : Thing) (w' : World), Heap W (x :: l) w' → _ from fun x w' h => rat_H (W := W) (l := x :: l) (w := w') f t c (M.more fun y hy => List.mem_cons_of_mem _ hy) hf ht hc hm64 h)
  obtain ⟨a, n, cc, b, m, d, h1, h2, m1, m2, m3⟩ := M
  have HR := Lib.hid (show ∀ w', Heap W l w' → Rd w' b (linL S.L) from fun w' h => h.rowRd m3)
  have HL := Lib.hid h2
  rw [h2] at hm64
  have HM := Lib.hid m1
  clear h1 h2 m1 m2 m3
  go_enter Tryz.func33, Tryz.ntmps33
  go_wp2_with (first | go_skip | ((with_reducible show wpList _ _ _ (_ :: _) _ _); (with_reducible apply wpl_allocRH row_line); (· rfl); (· exact H); (clear H; intro pr _ H); (simp only [Act.put, List.setIfInBounds_toArray, List.set_cons_zero, List.set_cons_succ])))
  refine (HA.out _ _ H).mono ?_
  clear H
  rintro e w1 ⟨k, rfl, (⟨rfl, hn⟩ | ⟨j, x, rfl, hj, hx⟩), H⟩
  · have HE := Lib.hid (show lineC S.L f t c = line 0 0 0 0 0 ∧ isLine S.L f t c = false by unfold lineC isLine; rw [hn]; exact ⟨rfl, rfl⟩)
    clear hn
    go_wp2_with (first | go_skip | ((with_reducible show wpList _ _ _ (_ :: _) _ _); (with_reducible apply wpl_storeRH row_line); (· rfl); (· rfl); (· rfl); (· with_reducible exact line_cells ..); (· exact H); (· (repeat (first | (with_reducible exact List.mem_cons_self) | with_reducible apply List.mem_cons_of_mem))); (· (simp only [line_sz, Nat.reduceAdd, Nat.reduceLeDiff, Nat.le_refl]; done)); (· with_reducible exact line_splice ..); (· (repeat (first | (with_reducible exact Repl.here) | with_reducible apply Repl.there))); (clear H; intro _ H); (simp only [Act.put, List.setIfInBounds_toArray, List.set_cons_zero, List.set_cons_succ])))
    exact ret_row2H row_line rfl rfl rfl H (by (repeat (first | (with_reducible exact List.mem_cons_self) | with_reducible apply List.mem_cons_of_mem))) rfl rfl ⟨by rw [HE.out.1, HE.out.2]; rfl, H.tail⟩
  · obtain ⟨_, x1, x2, x3⟩ := lineOf_mem hx
    have hj5 : j < m := by
      obtain ⟨h, _⟩ := List.getElem?_eq_some_iff.1 hj
      rw [HL.out] at h
      exact h
    have HE := Lib.hid (show lineC S.L f t c = line x.cr x.db x.cu x.lim x.deb ∧ isLine S.L f t c = true by
      unfold lineC isLine limOf debOf
      rw [hx, x1, x2, x3]
      exact ⟨rfl, rfl⟩)
    have hrow : (((linL S.L).drop (j * 5)).take 5).toArray = line x.cr x.db x.cu x.lim x.deb := by
      obtain ⟨hk', rfl⟩ := List.getElem?_eq_some_iff.1 hj
      exact linL_row S.L j hk'
    have hlen : j * 5 + 5 ≤ (linL S.L).length := by rw [linL_len, HL.out]; omega
    obtain ⟨bb, o, rfl, _⟩ := (HR.out _ H.tail).lt (by omega)
    have HRT := Lib.hid (show ∀ (x : Thing) (w' : World), Heap W (x :: l) w' → Rd w' (some ⟨bb, o, none⟩) (linL S.L) from fun x w' h => HR.out w' h.tail)
    have d0 : decide ((j : Int) < 0) = false := by simp
    clear hx hj x1 x2 x3
    go_wp2_with (first
      | go_skip
      | ((with_reducible show wpList _ _ _ (_ :: _) _ _); (with_reducible apply wpl_loadCH); (· exact cell_lins); (· rfl); (· rfl); (· exact H); (· exact List.mem_cons_of_mem _ HM.out); (· exact refA_g1 ..); (simp only [Act.put, List.setIfInBounds_toArray, List.set_cons_zero, List.set_cons_succ]))
      | ((with_reducible show wpList _ _ _ (_ :: _) _ _); (with_reducible apply wpl_loadRdR row_line); (· rfl); (· rfl); (· exact HRT.out _ _ H); (· rfl); (· exact hlen); (· decide); (· exact hrow); (simp only [Act.put, List.setIfInBounds_toArray, List.set_cons_zero, List.set_cons_succ]))
      | ((with_reducible show wpList _ _ _ (_ :: _) _ _); (with_reducible apply wpl_storeRH row_line); (· rfl); (· rfl); (· rfl); (· with_reducible exact line_cells ..); (· exact H); (· (repeat (first | (with_reducible exact List.mem_cons_self) | with_reducible apply List.mem_cons_of_mem))); (· (simp only [line_sz, Nat.reduceAdd, Nat.reduceLeDiff, Nat.le_refl]; done)); (· with_reducible exact line_splice ..); (· (repeat (first | (with_reducible exact Repl.here) | with_reducible apply Repl.there))); (clear H; intro _ H); (simp only [Act.put, List.setIfInBounds_toArray, List.set_cons_zero, List.set_cons_succ])))
    exact ret_row2H row_line rfl rfl rfl H (by (repeat (first | (with_reducible exact List.mem_cons_self) | with_reducible apply List.mem_cons_of_mem))) rfl rfl ⟨by rw [HE.out.1, HE.out.2]; rfl, H.tail⟩
theorem rhasM (G : S.Good) (M : RefM l p S) (x : Nat) : AnsH W l 49 #[.pointer (some ⟨p, 0, none⟩), .int .u8 (x : Int)] (.bool (decide ((x : Int) ∈ S.P))) := by
  obtain ⟨a, n, cc, b, m, d, h1, h2, m1, m2, m3⟩ := M
  exact rhas_H (W := W) (l := l) (p := p) a n cc (.slice b m d) S.P x h1 (by have := G.few16; omega) (fun w' h => h.rowRd m2) m1
/-- Room. -/
theorem rroom_H (f t c : Nat) (G : S.Good) (M : RefM l p S) (hf : f ≤ 255) (ht : t ≤ 255) (hc : c ≤ 255) : AnsH W l 21 #[.pointer (some ⟨p, 0, none⟩), .int .u8 (f : Int), .int .u8 (t : Int), .int .u8 (c : Int)] (.int .i64 (roomOf S f t c)) := by
  intro w H
  have hfew := G.few
  have hroom := G.room0 (f := f) (t := t) c
  have LN := fun (l' : List Thing) (hs : ∀ x ∈ l, x ∈ l') (f t : Nat) (hf : f ≤ 255) (ht : t ≤ 255) => rline_H (W := W) (l := l') f t c (M.more hs) hf ht hc (by omega)
  have HAS := fun (x : Nat) => rhasM (W := W) G M x
  have A1 := HAS f
  have A2 := HAS t
  by_cases e1 : f = t
  · have b1 : ((f : Int) == (t : Int)) = true := by simp; omega
    rw [hroom (.inl (by omega))]
    clear LN HAS hroom G M A1 A2 hfew
    go_enter Tryz.func21, Tryz.ntmps21
    go_wp2_with (go_skip)
    go_ret
    exact ⟨rfl, H⟩
  · have b1 : ((f : Int) == (t : Int)) = false := by simp; omega
    by_cases e2 : (f : Int) ∈ S.P
    · by_cases e3 : (t : Int) ∈ S.P
      · rw [decide_eq_true e2] at A1
        rw [decide_eq_true e3] at A2
        have L1 := LN l (fun _ h => h) f t hf ht
        have L2 := Lib.hid (fun x => LN (x :: l) (fun _ h => List.mem_cons_of_mem _ h) t f ht hf)
        have n1 := G.nums f t c
        have n2 := G.nums t f c
        have v1 : lineC S.L f t c = if isLine S.L f t c = true then line f t c (limOf S.L f t c) (debOf S.L f t c) else line 0 0 0 0 0 := rfl
        have key : ∀ (a b : Nat), ∃ x y z, lineC S.L a b c = line x y z (limOf S.L a b c) (debOf S.L a b c) := fun a b => by
          unfold lineC
          split
          · exact ⟨_, _, _, rfl⟩
          · rename_i h
            have h2 := Lgr.Good.noLine (S := S) (by simpa using h : isLine S.L a b c = false)
            rw [h2.2.1, h2.2.2]
            exact ⟨_, _, _, rfl⟩
        obtain ⟨x1, y1, z1, k1⟩ := key f t
        obtain ⟨x2, y2, z2, k2⟩ := key t f
        rw [k1] at L1
        have L2 := Lib.hid (fun x => by have := L2.out x; rwa [k2] at this)
        have hv : roomOf S f t c = debOf S.L f t c + limOf S.L t f c - debOf S.L t f c := rfl
        rw [hv]
        clear LN HAS hroom G M e1 e2 e3 hfew v1 key k1 k2 hv
        generalize isLine S.L f t c = i1 at *
        generalize isLine S.L t f c = i2 at *
        generalize debOf S.L f t c = d1 at *
        generalize debOf S.L t f c = d2 at *
        generalize limOf S.L f t c = m1 at *
        generalize limOf S.L t f c = m2 at *
        have w1 : wrap64 (d1 + m2) = d1 + m2 := IntWalk.wrap64_in _ ⟨by omega, by omega⟩
        have w2 : wrap64 (d1 + m2 - d2) = d1 + m2 - d2 := IntWalk.wrap64_in _ ⟨by omega, by omega⟩
        go_enter Tryz.func21, Tryz.ntmps21
        go_wp2_with (first | go_skip | ((with_reducible refine AnsH.call (by assumption) H ?_); clear H; intro _ H) | ((with_reducible refine AnsH.call (L2.out _) H ?_); clear H; intro _ H) | ((with_reducible show wpList _ _ _ (_ :: _) _ _); (with_reducible apply wpl_allocRH row_line); (· rfl); (· exact H); (clear H; intro pr _ H); (simp only [Act.put, List.setIfInBounds_toArray, List.set_cons_zero, List.set_cons_succ])) | ((with_reducible show wpList _ _ _ (_ :: _) _ _); (with_reducible apply wpl_storeRH row_line); (· rfl); (· rfl); (· rfl); (· with_reducible exact line_cells ..); (· exact H); (· (repeat (first | (with_reducible exact List.mem_cons_self) | with_reducible apply List.mem_cons_of_mem))); (· (simp only [line_sz, Nat.reduceAdd, Nat.reduceLeDiff, Nat.le_refl]; done)); (· with_reducible exact line_splice ..); (· (repeat (first | (with_reducible exact Repl.here) | with_reducible apply Repl.there))); (clear H; intro _ H); (simp only [Act.put, List.setIfInBounds_toArray, List.set_cons_zero, List.set_cons_succ])) | ((with_reducible show wpList _ _ _ (_ :: _) _ _); (with_reducible apply wpl_loadCH); (· exact cell_i64); (· rfl); (· rfl); (· exact H); (· (repeat (first | (with_reducible exact List.mem_cons_self) | with_reducible apply List.mem_cons_of_mem))); (· first | exact line_g3 .. | exact line_g4 ..); (simp only [Act.put, List.setIfInBounds_toArray, List.set_cons_zero, List.set_cons_succ])))
        go_ret
        exact ⟨rfl, H.tail.tail⟩
      · rw [decide_eq_true e2] at A1
        rw [decide_eq_false e3] at A2
        rw [hroom (.inr (.inr e3))]
        clear LN HAS hroom G M e2 e3 hfew
        go_enter Tryz.func21, Tryz.ntmps21
        go_wp2_with (first | go_skip | ((with_reducible refine AnsH.call (by assumption) H ?_); clear H; intro _ H))
        go_ret
        exact ⟨rfl, H⟩
    · rw [decide_eq_false e2] at A1
      rw [hroom (.inr (.inl e2))]
      clear LN HAS hroom G M e2 hfew A2
      go_enter Tryz.func21, Tryz.ntmps21
      go_wp2_with (first | go_skip | ((with_reducible refine AnsH.call (by assumption) H ?_); clear H; intro _ H))
      go_ret
      exact ⟨rfl, H⟩
end
end Go.Proofs.YtgobnamhdkbbeaaGreat

/- countinghouseref03: Trust, Push, Forgive. -/
namespace Go.Proofs.YtgobnamhdkbbeaaGreat
open Go.RowKit
set_option linter.unusedSimpArgs false
set_option linter.unusedVariables false
attribute [local go_sem high] run_min2
theorem line_s4 (a b c d e z : Int) : (line a b c d e).setIfInBounds 4 (.int .i64 z) = line a b c d z := rfl
theorem lineC_form {S : Lgr} (a b c : Nat) : ∃ x y z, lineC S.L a b c = line x y z (limOf S.L a b c) (debOf S.L a b c) ∧ (isLine S.L a b c = true → x = (a : Int) ∧ y = (b : Int) ∧ z = (c : Int)) := by
  unfold lineC
  split
  · exact ⟨_, _, _, rfl, fun _ => ⟨rfl, rfl, rfl⟩⟩
  · rename_i h
    have h2 := Lgr.Good.noLine (S := S) (by simpa using h : isLine S.L a b c = false)
    rw [h2.2.1, h2.2.2]
    exact ⟨_, _, _, rfl, fun e => absurd e h⟩
section
variable {W w : World} {l : List Thing} {p : Nat} {S : Lgr}
theorem RefH.open3 (H : RefH W l p S w) : ∃ a n c b m d, S.P.length = n ∧ S.L.length = m ∧ RefM (RefC p (.slice a n c) (.slice b m d) :: RowT 30 1 (.slice a n c) n (pI S.P) :: RowT 65 5 (.slice b m d) m (linL S.L) :: l) p S ∧ Heap W (RefC p (.slice a n c) (.slice b m d) :: RowT 30 1 (.slice a n c) n (pI S.P) :: RowT 65 5 (.slice b m d) m (linL S.L) :: l) w := by
  obtain ⟨a, n, c, b, m, d, h1, h2, H⟩ := H
  exact ⟨a, n, c, b, m, d, h1, h2, ⟨a, n, c, b, m, d, h1, h2, by (repeat (first | (with_reducible exact List.mem_cons_self) | with_reducible apply List.mem_cons_of_mem)), by (repeat (first | (with_reducible exact List.mem_cons_self) | with_reducible apply List.mem_cons_of_mem)), by (repeat (first | (with_reducible exact List.mem_cons_self) | with_reducible apply List.mem_cons_of_mem))⟩, H⟩
theorem RefH.shut {a b : Option Addr} {n c m d : Nat} (h1 : S.P.length = n) (h2 : S.L.length = m) (H : Heap W (RefC p (.slice a n c) (.slice b m d) :: RowT 30 1 (.slice a n c) n (pI S.P) :: RowT 65 5 (.slice b m d) m (linL S.L) :: l) w) : RefH W l p S w := ⟨a, n, c, b, m, d, h1, h2, H⟩
/-- One more thing, on top or below. -/
theorem RefH.under {x : Thing} {a b : Option Addr} {n c m d : Nat} (h1 : S.P.length = n) (h2 : S.L.length = m) (H : Heap W (x :: RefC p (.slice a n c) (.slice b m d) :: RowT 30 1 (.slice a n c) n (pI S.P) :: RowT 65 5 (.slice b m d) m (linL S.L) :: l) w) : RefH W (x :: l) p S w :=
  ⟨a, n, c, b, m, d, h1, h2, H.perm ((List.Perm.swap _ _ _).trans (.cons _ ((List.Perm.swap _ _ _).trans (.cons _ (List.Perm.swap _ _ _)))))⟩
theorem RefH.drop1 {x : Thing} (H : RefH W (x :: l) p S w) : RefH W l p S w := by
  obtain ⟨a, n, c, b, m, d, h1, h2, H⟩ := H
  exact ⟨a, n, c, b, m, d, h1, h2, H.drop (.there (.there (.there .here)))⟩
set_option maxRecDepth 100000
set_option maxHeartbeats 8000000
theorem rforg_H (f t c : Nat) (n0 : Int) (hf : f ≤ 255) (ht : t ≤ 255) (hc : c ≤ 255) (hn : -9223372036854775808 ≤ n0 ∧ n0 ≤ 9223372036854775807) (G : S.Good) (H : RefH W l p S w) :
    Calls Tryz.prog 24 #[.pointer (some ⟨p, 0, none⟩), .int .u8 (f : Int), .int .u8 (t : Int), .int .u8 (c : Int), .int .i64 n0] w fun e w' => e = .returned (.int .i64 (forgE S f t c n0)) ∧ RefH W l p (forgS S f t c n0) w' := by
  by_cases h1 : n0 < 1
  · have e0 : forgE S f t c n0 = 1 := by unfold forgE; rw [if_pos h1]
    have e1 : forgS S f t c n0 = S := by unfold forgS; rw [if_neg (by omega)]
    rw [e0, e1]
    have HH := Lib.hid H
    clear e0 e1 hn G H
    have H := Heap.start w
    go_enter Tryz.func24, Tryz.ntmps24
    go_wp2_with (go_skip)
    go_ret
    exact ⟨rfl, HH.out⟩
  · obtain ⟨a, n, cc, b, m, d, hl1, hl2, M, H⟩ := H.open3
    have R := rline_H (W := W) f t c M hf ht hc (by have := G.few; omega)
    obtain ⟨x, y, z, k1, k2⟩ := lineC_form (S := S) f t c
    have HL := Lib.hid (And.intro hl1 hl2)
    rw [k1] at R
    cases hl : isLine S.L f t c
    · have e0 : forgE S f t c n0 = 7 := by unfold forgE; rw [if_neg h1, if_pos hl]
      have e1 : forgS S f t c n0 = S := by unfold forgS; rw [if_neg (by omega)]
      rw [e0, e1]
      rw [hl] at R
      clear e0 e1 hn G hl k1 k2 M hl1 hl2
      go_enter Tryz.func24, Tryz.ntmps24
      go_wp2_with (first | go_skip | ((with_reducible refine AnsH.call (by assumption) H ?_); clear H; intro _ H) | ((with_reducible show wpList _ _ _ (_ :: _) _ _); (with_reducible apply wpl_allocRH row_line); (· rfl); (· exact H); (clear H; intro pe _ H); (simp only [Act.put, List.setIfInBounds_toArray, List.set_cons_zero, List.set_cons_succ])) | ((with_reducible show wpList _ _ _ (_ :: _) _ _); (with_reducible apply wpl_storeRH row_line); (· rfl); (· rfl); (· rfl); (· with_reducible exact line_cells ..); (· exact H); (· (repeat (first | (with_reducible exact List.mem_cons_self) | with_reducible apply List.mem_cons_of_mem))); (· (simp only [line_sz, Nat.reduceAdd, Nat.reduceLeDiff, Nat.le_refl]; done)); (· with_reducible exact line_splice ..); (· (repeat (first | (with_reducible exact Repl.here) | with_reducible apply Repl.there))); (clear H; intro _ H); (simp only [Act.put, List.setIfInBounds_toArray, List.set_cons_zero, List.set_cons_succ])))
      go_ret
      exact ⟨rfl, .shut HL.out.1 HL.out.2 H.tail⟩
    · rw [hl] at R
      obtain ⟨rfl, rfl, rfl⟩ := k2 hl
      by_cases h2 : debOf S.L f t c < n0
      · have e0 : forgE S f t c n0 = 14 := by unfold forgE; rw [if_neg h1, if_neg (by rw [hl]; exact Bool.noConfusion), if_pos h2]
        have e1 : forgS S f t c n0 = S := by unfold forgS; rw [if_neg (by omega)]
        rw [e0, e1]
        have h3 : decide (n0 > debOf S.L f t c) = true := decide_eq_true h2
        clear e0 e1 hn G hl k1 k2 M hl1 hl2
        generalize debOf S.L f t c = dd at *
        generalize limOf S.L f t c = ll at *
        go_enter Tryz.func24, Tryz.ntmps24
        go_wp2_with (first | go_skip | ((with_reducible refine AnsH.call (by assumption) H ?_); clear H; intro _ H) | ((with_reducible show wpList _ _ _ (_ :: _) _ _); (with_reducible apply wpl_allocRH row_line); (· rfl); (· exact H); (clear H; intro pe _ H); (simp only [Act.put, List.setIfInBounds_toArray, List.set_cons_zero, List.set_cons_succ])) | ((with_reducible show wpList _ _ _ (_ :: _) _ _); (with_reducible apply wpl_storeRH row_line); (· rfl); (· rfl); (· rfl); (· with_reducible exact line_cells ..); (· exact H); (· (repeat (first | (with_reducible exact List.mem_cons_self) | with_reducible apply List.mem_cons_of_mem))); (· (simp only [line_sz, Nat.reduceAdd, Nat.reduceLeDiff, Nat.le_refl]; done)); (· with_reducible exact line_splice ..); (· (repeat (first | (with_reducible exact Repl.here) | with_reducible apply Repl.there))); (clear H; intro _ H); (simp only [Act.put, List.setIfInBounds_toArray, List.set_cons_zero, List.set_cons_succ])) | ((with_reducible show wpList _ _ _ (_ :: _) _ _); (with_reducible apply wpl_loadCH); (· exact cell_i64); (· rfl); (· rfl); (· exact H); (· (repeat (first | (with_reducible exact List.mem_cons_self) | with_reducible apply List.mem_cons_of_mem))); (· first | exact line_g3 .. | exact line_g4 ..); (simp only [Act.put, List.setIfInBounds_toArray, List.set_cons_zero, List.set_cons_succ])))
        go_ret
        exact ⟨rfl, .shut HL.out.1 HL.out.2 H.tail⟩
      · have e0 : forgE S f t c n0 = 0 := by unfold forgE; rw [if_neg h1, if_neg (by rw [hl]; exact Bool.noConfusion), if_neg h2]
        have e1 : forgS S f t c n0 = ⟨S.P, setL S.L ⟨f, t, c, limOf S.L f t c, debOf S.L f t c - n0⟩⟩ := by
          unfold forgS
          rw [if_pos e0, G.add_set hl, Int.sub_eq_add_neg]
        rw [e0, e1]
        have nn := G.nums f t c
        have SET := Lib.hid (show ∀ w', RefH W (Cel 0 #[] 0 :: l) p S w' → True from fun _ _ => trivial)
        have h3 : decide (n0 > debOf S.L f t c) = false := decide_eq_false h2
        have w1 : wrap64 (debOf S.L f t c - n0) = debOf S.L f t c - n0 := IntWalk.wrap64_in _ ⟨by omega, by omega⟩
        have ST := Lib.hid (fun (l' : List Thing) (w' : World) (h : RefH W l' p S w') => rsetL_H (W := W) (l := l') (w := w') (p := p) (S := S) ⟨f, t, c, limOf S.L f t c, debOf S.L f t c - n0⟩ (by simp only; omega) (by simp only; omega) (by simp only; omega) G h)
        simp only at ST
        clear e0 e1 hn G hl k1 k2 M hl1 hl2 SET nn
        generalize debOf S.L f t c = dd at *
        generalize limOf S.L f t c = ll at *
        go_enter Tryz.func24, Tryz.ntmps24
        go_wp2_with (first | go_skip | ((with_reducible refine AnsH.call (by assumption) H ?_); clear H; intro _ H) | ((with_reducible show wpList _ _ _ (_ :: _) _ _); (with_reducible apply wpl_allocRH row_line); (· rfl); (· exact H); (clear H; intro pe _ H); (simp only [Act.put, List.setIfInBounds_toArray, List.set_cons_zero, List.set_cons_succ])) | ((with_reducible show wpList _ _ _ (_ :: _) _ _); (with_reducible apply wpl_storeRH row_line); (· rfl); (· rfl); (· rfl); (· with_reducible exact line_cells ..); (· exact H); (· (repeat (first | (with_reducible exact List.mem_cons_self) | with_reducible apply List.mem_cons_of_mem))); (· (simp only [line_sz, Nat.reduceAdd, Nat.reduceLeDiff, Nat.le_refl]; done)); (· with_reducible exact line_splice ..); (· (repeat (first | (with_reducible exact Repl.here) | with_reducible apply Repl.there))); (clear H; intro _ H); (simp only [Act.put, List.setIfInBounds_toArray, List.set_cons_zero, List.set_cons_succ])) | ((with_reducible show wpList _ _ _ (_ :: _) _ _); (with_reducible apply wpl_loadCH); (· exact cell_i64); (· rfl); (· rfl); (· exact H); (· (repeat (first | (with_reducible exact List.mem_cons_self) | with_reducible apply List.mem_cons_of_mem))); (· first | exact line_g3 .. | exact line_g4 ..); (simp only [Act.put, List.setIfInBounds_toArray, List.set_cons_zero, List.set_cons_succ])) | ((with_reducible show wpList _ _ _ (_ :: _) _ _); (with_reducible apply wpl_storeIH); (· exact cell_i64); (· rfl); (· rfl); (· rfl); (· exact H); (· (repeat (first | (with_reducible exact List.mem_cons_self) | with_reducible apply List.mem_cons_of_mem))); (· exact Nat.le_refl 5); (· exact line_s4 ..); (· (repeat (first | (with_reducible exact Repl.here) | with_reducible apply Repl.there))); (clear H; intro _ H); (simp only [Act.put, List.setIfInBounds_toArray, List.set_cons_zero, List.set_cons_succ])) | ((with_reducible show wpList _ _ _ (_ :: _) _ _); (with_reducible apply wpl_loadRH row_line); (· rfl); (· rfl); (· exact H); (· (repeat (first | (with_reducible exact List.mem_cons_self) | with_reducible apply List.mem_cons_of_mem))); (· (simp only [line_sz, Nat.reduceAdd, Nat.reduceLeDiff, Nat.le_refl]; done)); (· with_reducible exact line_all ..); (simp only [Act.put, List.setIfInBounds_toArray, List.set_cons_zero, List.set_cons_succ])))
        try rw [w1] at H
        try rw [w1]
        refine (ST.out _ _ (RefH.under HL.out.1 HL.out.2 H)).mono ?_
        clear H
        rintro e w2 ⟨rfl, HH⟩
        have HH := Lib.hid HH.drop1
        have H := Heap.start w
        go_wp2_with (go_skip)
        go_ret
        exact ⟨rfl, HH.out⟩
theorem rpushL_H (f t c : Nat) (n0 : Int) (hf : f ≤ 255) (ht : t ≤ 255) (hc : c ≤ 255) (hn : -9223372036854775808 ≤ n0 ∧ n0 ≤ 9223372036854775807) (G : S.Good) (H : RefH W l p S w) :
    Calls Tryz.prog 22 #[.pointer (some ⟨p, 0, none⟩), .int .u8 (f : Int), .int .u8 (t : Int), .int .u8 (c : Int), .int .i64 n0] w fun e w' => e = .returned (.int .i64 (pushE S f t c n0)) ∧ RefH W l p (pushS S f t c n0) w' := by
  by_cases h1 : n0 < 1
  · have e0 : pushE S f t c n0 = 1 := by unfold pushE; rw [if_pos h1]
    have e1 : pushS S f t c n0 = S := by unfold pushS; rw [if_neg (by omega)]
    rw [e0, e1]
    have HH := Lib.hid H
    clear e0 e1 hn G H
    have H := Heap.start w
    go_enter Tryz.func22, Tryz.ntmps22
    go_wp2_with (go_skip)
    go_ret
    exact ⟨rfl, HH.out⟩
  · obtain ⟨a, n, cc, b, m, d, hl1, hl2, M, H⟩ := H.open3
    have R0 := rroom_H (W := W) f t c G M hf ht hc
    have HL := Lib.hid (And.intro hl1 hl2)
    by_cases h2 : roomOf S f t c < n0
    · have e0 : pushE S f t c n0 = 11 := by unfold pushE; rw [if_neg h1, if_pos h2]
      have e1 : pushS S f t c n0 = S := by unfold pushS; rw [if_neg (by omega)]
      rw [e0, e1]
      have h3 : decide (n0 > roomOf S f t c) = true := decide_eq_true h2
      clear e0 e1 hn G M hl1 hl2
      generalize roomOf S f t c = r at *
      go_enter Tryz.func22, Tryz.ntmps22
      go_wp2_with (first | go_skip | ((with_reducible refine AnsH.call (by assumption) H ?_); clear H; intro _ H))
      go_ret
      exact ⟨rfl, .shut HL.out.1 HL.out.2 H⟩
    · have e0 : pushE S f t c n0 = 0 := by unfold pushE; rw [if_neg h1, if_neg h2]
      have R := rline_H (W := W) f t c M hf ht hc (by have := G.few; omega)
      obtain ⟨x, y, z, k1, k2⟩ := lineC_form (S := S) f t c
      rw [k1] at R
      have GA := G.pushA e0
      have nn := G.nums f t c
      have nm := G.nums t f c
      obtain ⟨_, _, hne, hfP, htP⟩ := G.push0 e0
      have hf16 := G.par1 _ hfP
      have ht16 := G.par1 _ htP
      have hroom : n0 ≤ debOf S.L f t c + limOf S.L t f c - debOf S.L t f c := by unfold roomOf at h2; omega
      have hfall : fallOf S f t c n0 = min n0 (debOf S.L f t c) := rfl
      have h3 : decide (n0 > roomOf S f t c) = false := decide_eq_false h2
      -- the second half, from whatever came of the first
      obtain ⟨F, hF⟩ : ∃ F, fallOf S f t c n0 = F := ⟨_, rfl⟩
      have e1 : pushS S f t c n0 = ⟨S.P, addL (addL S.L f t c (-F)) t f c (n0 - F)⟩ := by unfold pushS; rw [if_pos e0, hF]
      rw [hF] at GA hfall
      have hdeb2 : debOf (addL S.L f t c (-F)) t f c = debOf S.L t f c := by rw [debOf_add, if_neg (fun e => hne e.2.1.symm)]; omega
      have hlim2 : limOf (addL S.L f t c (-F)) t f c = limOf S.L t f c := limOf_add ..
      have hisl2 : isLine (addL S.L f t c (-F)) t f c = isLine S.L t f c := isLine_add ..
      have hfew2 : (addL S.L f t c (-F)).length ≤ 64 := by rw [addL_len]; exact G.few
      have w2 : wrap64 (n0 - F) = n0 - F := IntWalk.wrap64_in _ ⟨by omega, by omega⟩
      have ST2 := Lib.hid (fun (hl : isLine S.L t f c = true) (l' : List Thing) (w' : World) (h : RefH W l' p ⟨S.P, addL S.L f t c (-F)⟩ w') => by
        have := rsetL_H (W := W) (l := l') (w := w') (p := p) (S := ⟨S.P, addL S.L f t c (-F)⟩) ⟨t, f, c, limOf S.L t f c, debOf S.L t f c + (n0 - F)⟩ (by simp only; omega) (by simp only; omega) (by simp only; omega) GA h
        simp only at this
        have e2 := GA.add_set (cr := t) (db := f) (cu := c) (by simp only; rw [hisl2]; exact hl) (n0 - F)
        simp only at e2
        rw [hlim2, hdeb2] at e2
        rw [← e2] at this
        exact this)
      have LN2 := Lib.hid (fun (l' : List Thing) (M : RefM l' p ⟨S.P, addL S.L f t c (-F)⟩) => rline_H (W := W) (l := l') (S := ⟨S.P, addL S.L f t c (-F)⟩) t f c M ht hf hc (by simp only; omega))
      obtain ⟨x2, y2, z2, j1, j2⟩ := lineC_form (S := ⟨S.P, addL S.L f t c (-F)⟩) t f c
      simp only at j1 j2
      rw [hlim2, hdeb2] at j1
      rw [hisl2] at j2
      have LN2 := Lib.hid (fun (l' : List Thing) (M : RefM l' p ⟨S.P, addL S.L f t c (-F)⟩) => by
        have := LN2.out l' M
        simp only at this
        rw [j1, hisl2] at this
        exact this)
      have hlt2 : 0 < n0 - F → isLine S.L t f c = true := fun h => G.lim_line (by omega)
      have w3 : wrap64 (debOf S.L t f c + (n0 - F)) = debOf S.L t f c + (n0 - F) := IntWalk.wrap64_in _ ⟨by omega, by omega⟩
      cases hl : isLine S.L f t c
      · have hd0 : debOf S.L f t c = 0 := (Lgr.Good.noLine hl).2.2
        obtain rfl : F = 0 := by omega
        have hA : addL S.L f t c (-0) = S.L := by rw [show (-0 : Int) = 0 by rfl, addL_zero]
        rw [hl] at R
        have hi2 := hlt2 (by omega)
        obtain ⟨rfl, rfl, rfl⟩ := j2 hi2
        rw [e0, e1]
        have ST3 := ST2.out hi2
        rw [hA] at ST3 LN2
        rw [hi2] at LN2
        have hz : n0 - 0 = n0 := by omega
        rw [hz] at ST3 w3
        have e2 : (⟨S.P, S.L⟩ : Lgr) = S := rfl
        rw [e2] at ST3 LN2
        have ST3 := Lib.hid ST3
        have g1 : decide (n0 > 0) = true := decide_eq_true (by omega)
        have g2 : decide (0 < n0) = true := decide_eq_true (by omega)
        have L2 := LN2.out _ (M.more (l' := Cel 0 #[] 0 :: _) (fun _ h => List.mem_cons_of_mem _ h))
        have HM := Lib.hid (fun (x : Thing) => M.more (l' := x :: _) (fun _ h => List.mem_cons_of_mem _ h))
        rw [hA, hz]
        clear e0 e1 hn G hl k1 k2 M hl1 hl2 nn nm hroom hfall hF GA hdeb2 hlim2 hisl2 hfew2 ST2 hlt2 hd0 hA hi2 j1 j2 w2 h2 hz e2 L2 hne hfP htP
        generalize debOf S.L f t c = dd at *
        generalize limOf S.L f t c = ll at *
        generalize debOf S.L t f c = dt at *
        generalize limOf S.L t f c = lt at *
        generalize roomOf S f t c = r at *
        go_enter Tryz.func22, Tryz.ntmps22
        go_wp2_with (first | go_skip | ((with_reducible refine AnsH.call (by assumption) H ?_); clear H; intro _ H) | ((with_reducible refine AnsH.call (LN2.out _ (HM.out _)) H ?_); clear H; intro _ H) | ((with_reducible show wpList _ _ _ (_ :: _) _ _); (with_reducible apply wpl_allocRH row_line); (· rfl); (· exact H); (clear H; intro pe _ H); (simp only [Act.put, List.setIfInBounds_toArray, List.set_cons_zero, List.set_cons_succ])) | ((with_reducible show wpList _ _ _ (_ :: _) _ _); (with_reducible apply wpl_storeRH row_line); (· rfl); (· rfl); (· rfl); (· with_reducible exact line_cells ..); (· exact H); (· (repeat (first | (with_reducible exact List.mem_cons_self) | with_reducible apply List.mem_cons_of_mem))); (· (simp only [line_sz, Nat.reduceAdd, Nat.reduceLeDiff, Nat.le_refl]; done)); (· with_reducible exact line_splice ..); (· (repeat (first | (with_reducible exact Repl.here) | with_reducible apply Repl.there))); (clear H; intro _ H); (simp only [Act.put, List.setIfInBounds_toArray, List.set_cons_zero, List.set_cons_succ])) | ((with_reducible show wpList _ _ _ (_ :: _) _ _); (with_reducible apply wpl_loadCH); (· exact cell_i64); (· rfl); (· rfl); (· exact H); (· (repeat (first | (with_reducible exact List.mem_cons_self) | with_reducible apply List.mem_cons_of_mem))); (· first | exact line_g3 .. | exact line_g4 ..); (simp only [Act.put, List.setIfInBounds_toArray, List.set_cons_zero, List.set_cons_succ])) | ((with_reducible show wpList _ _ _ (_ :: _) _ _); (with_reducible apply wpl_storeIH); (· exact cell_i64); (· rfl); (· rfl); (· rfl); (· exact H); (· (repeat (first | (with_reducible exact List.mem_cons_self) | with_reducible apply List.mem_cons_of_mem))); (· exact Nat.le_refl 5); (· exact line_s4 ..); (· (repeat (first | (with_reducible exact Repl.here) | with_reducible apply Repl.there))); (clear H; intro _ H); (simp only [Act.put, List.setIfInBounds_toArray, List.set_cons_zero, List.set_cons_succ])) | ((with_reducible show wpList _ _ _ (_ :: _) _ _); (with_reducible apply wpl_loadRH row_line); (· rfl); (· rfl); (· exact H); (· (repeat (first | (with_reducible exact List.mem_cons_self) | with_reducible apply List.mem_cons_of_mem))); (· (simp only [line_sz, Nat.reduceAdd, Nat.reduceLeDiff, Nat.le_refl]; done)); (· with_reducible exact line_all ..); (simp only [Act.put, List.setIfInBounds_toArray, List.set_cons_zero, List.set_cons_succ])))
        try rw [w3] at H
        try rw [w3]
        refine (ST3.out _ _ (RefH.under HL.out.1 HL.out.2 (H.drop (.there .here)))).mono ?_
        clear H
        rintro e w5 ⟨rfl, HH⟩
        have HH := Lib.hid HH.drop1
        have H := Heap.start w
        go_wp2_with (go_skip)
        go_ret
        exact ⟨rfl, HH.out⟩
      · obtain ⟨rfl, rfl, rfl⟩ := k2 hl
        rw [hl] at R
        have w1 : wrap64 (debOf S.L f t c - F) = debOf S.L f t c - F := IntWalk.wrap64_in _ ⟨by omega, by omega⟩
        have ST1 := Lib.hid (fun (l' : List Thing) (w' : World) (h : RefH W l' p S w') => by
          have := rsetL_H (W := W) (l := l') (w := w') (p := p) (S := S) ⟨f, t, c, limOf S.L f t c, debOf S.L f t c - F⟩ (by simp only; omega) (by simp only; omega) (by simp only; omega) G h
          simp only at this
          have e2 := G.add_set hl (-F)
          rw [← Int.sub_eq_add_neg] at e2
          rw [← e2] at this
          exact this)
        have hmin : min n0 (debOf S.L f t c) = F := hfall.symm
        rw [e0, e1]
        have HLT := Lib.hid hlt2
        have HJ := Lib.hid j2
        have HA0 := Lib.hid (show n0 - F = 0 → addL (addL S.L f t c (-F)) t f c (n0 - F) = addL S.L f t c (-F) from fun h => by rw [h, addL_zero])
        have hge : 0 ≤ n0 - F := by omega
        clear e0 e1 hn G hl k1 k2 M hl1 hl2 nn nm hroom hfall hF GA hdeb2 hlim2 hisl2 hfew2 hlt2 j1 j2 h2 hne hfP htP
        generalize hA2 : addL (addL S.L f t c (-F)) t f c (n0 - F) = LL at *
        clear hA2
        generalize addL S.L f t c (-F) = L1 at *
        generalize debOf S.L f t c = dd at *
        generalize limOf S.L f t c = ll at *
        generalize debOf S.L t f c = dt at *
        generalize limOf S.L t f c = lt at *
        generalize roomOf S f t c = r at *
        go_enter Tryz.func22, Tryz.ntmps22
        go_wp2_with (first | go_skip | ((with_reducible refine AnsH.call (by assumption) H ?_); clear H; intro _ H) | ((with_reducible show wpList _ _ _ (_ :: _) _ _); (with_reducible apply wpl_allocRH row_line); (· rfl); (· exact H); (clear H; intro pe _ H); (simp only [Act.put, List.setIfInBounds_toArray, List.set_cons_zero, List.set_cons_succ])) | ((with_reducible show wpList _ _ _ (_ :: _) _ _); (with_reducible apply wpl_storeRH row_line); (· rfl); (· rfl); (· rfl); (· with_reducible exact line_cells ..); (· exact H); (· (repeat (first | (with_reducible exact List.mem_cons_self) | with_reducible apply List.mem_cons_of_mem))); (· (simp only [line_sz, Nat.reduceAdd, Nat.reduceLeDiff, Nat.le_refl]; done)); (· with_reducible exact line_splice ..); (· (repeat (first | (with_reducible exact Repl.here) | with_reducible apply Repl.there))); (clear H; intro _ H); (simp only [Act.put, List.setIfInBounds_toArray, List.set_cons_zero, List.set_cons_succ])) | ((with_reducible show wpList _ _ _ (_ :: _) _ _); (with_reducible apply wpl_loadCH); (· exact cell_i64); (· rfl); (· rfl); (· exact H); (· (repeat (first | (with_reducible exact List.mem_cons_self) | with_reducible apply List.mem_cons_of_mem))); (· first | exact line_g3 .. | exact line_g4 ..); (simp only [Act.put, List.setIfInBounds_toArray, List.set_cons_zero, List.set_cons_succ])) | ((with_reducible show wpList _ _ _ (_ :: _) _ _); (with_reducible apply wpl_storeIH); (· exact cell_i64); (· rfl); (· rfl); (· rfl); (· exact H); (· (repeat (first | (with_reducible exact List.mem_cons_self) | with_reducible apply List.mem_cons_of_mem))); (· exact Nat.le_refl 5); (· exact line_s4 ..); (· (repeat (first | (with_reducible exact Repl.here) | with_reducible apply Repl.there))); (clear H; intro _ H); (simp only [Act.put, List.setIfInBounds_toArray, List.set_cons_zero, List.set_cons_succ])) | ((with_reducible show wpList _ _ _ (_ :: _) _ _); (with_reducible apply wpl_loadRH row_line); (· rfl); (· rfl); (· exact H); (· (repeat (first | (with_reducible exact List.mem_cons_self) | with_reducible apply List.mem_cons_of_mem))); (· (simp only [line_sz, Nat.reduceAdd, Nat.reduceLeDiff, Nat.le_refl]; done)); (· with_reducible exact line_all ..); (simp only [Act.put, List.setIfInBounds_toArray, List.set_cons_zero, List.set_cons_succ])))
        try rw [w1] at H
        try rw [w1]
        refine (ST1.out _ _ (RefH.under HL.out.1 HL.out.2 H)).mono ?_
        clear H
        rintro e w5 ⟨rfl, HH⟩
        obtain ⟨a', n', cc', b', m', d', hl1, hl2, M, H⟩ := HH.open3
        have HL2 := Lib.hid (And.intro hl1 hl2)
        have L2 := LN2.out _ M
        have HM := Lib.hid M
        clear M hl1 hl2 HH
        by_cases hp : 0 < n0 - F
        · have hi2 := HLT.out hp
          obtain ⟨rfl, rfl, rfl⟩ := HJ.out hi2
          rw [hi2] at L2
          have ST3 := ST2.out hi2
          have ST3 := Lib.hid ST3
          clear hi2
          go_wp2_with (first | go_skip | ((with_reducible refine AnsH.call (by assumption) H ?_); clear H; intro _ H) | ((with_reducible show wpList _ _ _ (_ :: _) _ _); (with_reducible apply wpl_allocRH row_line); (· rfl); (· exact H); (clear H; intro pe _ H); (simp only [Act.put, List.setIfInBounds_toArray, List.set_cons_zero, List.set_cons_succ])) | ((with_reducible show wpList _ _ _ (_ :: _) _ _); (with_reducible apply wpl_storeRH row_line); (· rfl); (· rfl); (· rfl); (· with_reducible exact line_cells ..); (· exact H); (· (repeat (first | (with_reducible exact List.mem_cons_self) | with_reducible apply List.mem_cons_of_mem))); (· (simp only [line_sz, Nat.reduceAdd, Nat.reduceLeDiff, Nat.le_refl]; done)); (· with_reducible exact line_splice ..); (· (repeat (first | (with_reducible exact Repl.here) | with_reducible apply Repl.there))); (clear H; intro _ H); (simp only [Act.put, List.setIfInBounds_toArray, List.set_cons_zero, List.set_cons_succ])) | ((with_reducible show wpList _ _ _ (_ :: _) _ _); (with_reducible apply wpl_loadCH); (· exact cell_i64); (· rfl); (· rfl); (· exact H); (· (repeat (first | (with_reducible exact List.mem_cons_self) | with_reducible apply List.mem_cons_of_mem))); (· first | exact line_g3 .. | exact line_g4 ..); (simp only [Act.put, List.setIfInBounds_toArray, List.set_cons_zero, List.set_cons_succ])) | ((with_reducible show wpList _ _ _ (_ :: _) _ _); (with_reducible apply wpl_storeIH); (· exact cell_i64); (· rfl); (· rfl); (· rfl); (· exact H); (· (repeat (first | (with_reducible exact List.mem_cons_self) | with_reducible apply List.mem_cons_of_mem))); (· exact Nat.le_refl 5); (· exact line_s4 ..); (· (repeat (first | (with_reducible exact Repl.here) | with_reducible apply Repl.there))); (clear H; intro _ H); (simp only [Act.put, List.setIfInBounds_toArray, List.set_cons_zero, List.set_cons_succ])) | ((with_reducible show wpList _ _ _ (_ :: _) _ _); (with_reducible apply wpl_loadRH row_line); (· rfl); (· rfl); (· exact H); (· (repeat (first | (with_reducible exact List.mem_cons_self) | with_reducible apply List.mem_cons_of_mem))); (· (simp only [line_sz, Nat.reduceAdd, Nat.reduceLeDiff, Nat.le_refl]; done)); (· with_reducible exact line_all ..); (simp only [Act.put, List.setIfInBounds_toArray, List.set_cons_zero, List.set_cons_succ])))
          try rw [w3] at H
          try rw [w3]
          refine (ST3.out _ _ (RefH.under HL2.out.1 HL2.out.2 H)).mono ?_
          clear H
          rintro e w6 ⟨rfl, HH⟩
          have HH := Lib.hid HH.drop1.drop1
          have H := Heap.start w
          go_wp2_with (go_skip)
          go_ret
          exact ⟨rfl, HH.out⟩
        · have g1 : decide (n0 - F > 0) = false := decide_eq_false hp
          have g2 : decide (0 < n0 - F) = false := decide_eq_false hp
          clear L2
          go_wp2_with (go_skip)
          go_ret
          rw [HA0.out (by omega)]
          exact ⟨rfl, (RefH.shut (S := ⟨S.P, L1⟩) HL2.out.1 HL2.out.2 H).drop1⟩
end
end Go.Proofs.YtgobnamhdkbbeaaGreat

/- countinghouseref03: Trust. -/
namespace Go.Proofs.YtgobnamhdkbbeaaGreat
open Go.RowKit
set_option linter.unusedSimpArgs false
set_option linter.unusedVariables false
section
variable {W w : World} {l : List Thing} {p : Nat} {S : Lgr}
set_option maxRecDepth 100000
set_option maxHeartbeats 8000000
theorem rtrust_bad (f t c : Nat) (n0 : Int) (hf : f ≤ 255) (ht : t ≤ 255) (hc : c ≤ 255) (hn : -9223372036854775808 ≤ n0 ∧ n0 ≤ 9223372036854775807) (hb : badEnds f t c ∨ n0 < 0 ∨ 1099511627776 < n0) (H : RefH W l p S w) :
    Calls Tryz.prog 20 #[.pointer (some ⟨p, 0, none⟩), .int .u8 (f : Int), .int .u8 (t : Int), .int .u8 (c : Int), .int .i64 n0] w fun e w' => e = .returned (.int .i64 1) ∧ RefH W l p S w' := by
  have HH := Lib.hid H
  clear H
  have H := Heap.start w
  unfold badEnds at hb
  by_cases q0 : f < 1
  · clear hb
    go_enter Tryz.func20, Tryz.ntmps20
    go_wp2_with (go_skip)
    go_ret
    exact ⟨rfl, HH.out⟩
  by_cases q1 : 16 < f
  · clear hb
    go_enter Tryz.func20, Tryz.ntmps20
    go_wp2_with (go_skip)
    go_ret
    exact ⟨rfl, HH.out⟩
  by_cases q2 : t < 1
  · clear hb
    go_enter Tryz.func20, Tryz.ntmps20
    go_wp2_with (go_skip)
    go_ret
    exact ⟨rfl, HH.out⟩
  by_cases q3 : 16 < t
  · clear hb
    go_enter Tryz.func20, Tryz.ntmps20
    go_wp2_with (go_skip)
    go_ret
    exact ⟨rfl, HH.out⟩
  by_cases q4 : c < 1
  · clear hb
    go_enter Tryz.func20, Tryz.ntmps20
    go_wp2_with (go_skip)
    go_ret
    exact ⟨rfl, HH.out⟩
  by_cases q5 : 8 < c
  · clear hb
    go_enter Tryz.func20, Tryz.ntmps20
    go_wp2_with (go_skip)
    go_ret
    exact ⟨rfl, HH.out⟩
  by_cases q6 : f = t
  · clear hb
    have b1 : ((f : Int) == (t : Int)) = true := by simp; omega
    go_enter Tryz.func20, Tryz.ntmps20
    go_wp2_with (go_skip)
    go_ret
    exact ⟨rfl, HH.out⟩
  by_cases q7 : n0 < 0
  · clear hb
    have b1 : ((f : Int) == (t : Int)) = false := by simp; omega
    go_enter Tryz.func20, Tryz.ntmps20
    go_wp2_with (go_skip)
    go_ret
    exact ⟨rfl, HH.out⟩
  by_cases q8 : 1099511627776 < n0
  · clear hb
    have b1 : ((f : Int) == (t : Int)) = false := by simp; omega
    go_enter Tryz.func20, Tryz.ntmps20
    go_wp2_with (go_skip)
    go_ret
    exact ⟨rfl, HH.out⟩
  exact absurd hb (by omega)
theorem rtrust_H (f t c : Nat) (n0 : Int) (hf : f ≤ 255) (ht : t ≤ 255) (hc : c ≤ 255) (hn : -9223372036854775808 ≤ n0 ∧ n0 ≤ 9223372036854775807) (G : S.Good) (H : RefH W l p S w) :
    Calls Tryz.prog 20 #[.pointer (some ⟨p, 0, none⟩), .int .u8 (f : Int), .int .u8 (t : Int), .int .u8 (c : Int), .int .i64 n0] w fun e w' => e = .returned (.int .i64 (trustE S f t c n0)) ∧ RefH W l p (trustS S f t c n0) w' := by
  by_cases hb : badEnds f t c ∨ n0 < 0 ∨ 1099511627776 < n0
  · have e0 : trustE S f t c n0 = 1 := by unfold trustE; rw [if_pos hb]
    have e1 : trustS S f t c n0 = S := by unfold trustS; rw [if_neg (by omega)]
    rw [e0, e1]
    exact rtrust_bad f t c n0 hf ht hc hn hb H
  · obtain ⟨a, n, cc, b, m, d, hl1, hl2, M, H⟩ := H.open3
    have HL := Lib.hid (And.intro hl1 hl2)
    have HAS := fun (x : Nat) => rhasM (W := W) G M x
    have A1 := HAS f
    have A2 := HAS t
    have hE : trustE S f t c n0 = if (f : Int) ∉ S.P ∨ (t : Int) ∉ S.P then 7 else if n0 < debOf S.L f t c then 14 else if isLine S.L f t c = false ∧ 0 < n0 ∧ 64 ≤ S.L.length then 9 else 0 := by unfold trustE; rw [if_neg hb]
    have hS : trustE S f t c n0 ≠ 0 → trustS S f t c n0 = S := fun h => by unfold trustS; rw [if_neg h]
    have hS0 : trustE S f t c n0 = 0 → trustS S f t c n0 = ⟨S.P, setL S.L ⟨f, t, c, n0, debOf S.L f t c⟩⟩ := fun h => by unfold trustS; rw [if_pos h]
    unfold badEnds at hb
    have q1 : 1 ≤ f ∧ f ≤ 16 := by omega
    have q2 : 1 ≤ t ∧ t ≤ 16 := by omega
    have q3 : 1 ≤ c ∧ c ≤ 8 := by omega
    have q4 : f ≠ t := by omega
    have q5 : 0 ≤ n0 ∧ n0 ≤ 1099511627776 := by omega
    have b1 : ((f : Int) == (t : Int)) = false := by simp; omega
    clear hb
    by_cases p1 : (f : Int) ∈ S.P
    · by_cases p2 : (t : Int) ∈ S.P
      · rw [if_neg (by rintro (h | h) <;> contradiction)] at hE
        rw [decide_eq_true p1] at A1
        rw [decide_eq_true p2] at A2
        have R := rline_H (W := W) f t c M hf ht hc (by have := G.few; omega)
        obtain ⟨x, y, z, k1, k2⟩ := lineC_form (S := S) f t c
        rw [k1] at R
        have ST := Lib.hid (fun (l' : List Thing) (w' : World) (h : RefH W l' p S w') => rsetL_H (W := W) (l := l') (w := w') (p := p) (S := S) ⟨f, t, c, n0, debOf S.L f t c⟩ (by simp only; omega) (by simp only; omega) (by simp only; omega) G h)
        simp only at ST
        have hm64 := G.few
        obtain ⟨m1, m2, m3⟩ : RefC p (.slice a n cc) (.slice b m d) ∈ (RefC p (.slice a n cc) (.slice b m d) :: RowT 30 1 (.slice a n cc) n (pI S.P) :: RowT 65 5 (.slice b m d) m (linL S.L) :: l) ∧ True ∧ True := ⟨by (repeat (first | (with_reducible exact List.mem_cons_self) | with_reducible apply List.mem_cons_of_mem)), trivial, trivial⟩
        have MM := Lib.hid m1
        rw [hl2] at hE hm64
        by_cases g1 : n0 < debOf S.L f t c
        · rw [if_pos g1] at hE
          rw [hE, hS (by rw [hE]; decide)]
          clear hE hS hS0 M HAS G k1 k2 hl1 hl2 m1 m2 m3 p1 p2
          generalize debOf S.L f t c = dd at *
          generalize limOf S.L f t c = ll at *
          generalize isLine S.L f t c = ii at *
          go_enter Tryz.func20, Tryz.ntmps20
          go_wp2_with (first | go_skip | ((with_reducible refine AnsH.call (by assumption) H ?_); clear H; intro _ H) | ((with_reducible show wpList _ _ _ (_ :: _) _ _); (with_reducible apply wpl_allocRH row_line); (· rfl); (· exact H); (clear H; intro pe _ H); (simp only [Act.put, List.setIfInBounds_toArray, List.set_cons_zero, List.set_cons_succ])) | ((with_reducible show wpList _ _ _ (_ :: _) _ _); (with_reducible apply wpl_storeRH row_line); (· rfl); (· rfl); (· rfl); (· with_reducible exact line_cells ..); (· exact H); (· (repeat (first | (with_reducible exact List.mem_cons_self) | with_reducible apply List.mem_cons_of_mem))); (· (simp only [line_sz, Nat.reduceAdd, Nat.reduceLeDiff, Nat.le_refl]; done)); (· with_reducible exact line_splice ..); (· (repeat (first | (with_reducible exact Repl.here) | with_reducible apply Repl.there))); (clear H; intro _ H); (simp only [Act.put, List.setIfInBounds_toArray, List.set_cons_zero, List.set_cons_succ])) | ((with_reducible show wpList _ _ _ (_ :: _) _ _); (with_reducible apply wpl_loadCH); (· exact cell_i64); (· rfl); (· rfl); (· exact H); (· (repeat (first | (with_reducible exact List.mem_cons_self) | with_reducible apply List.mem_cons_of_mem))); (· first | exact line_g3 .. | exact line_g4 ..); (simp only [Act.put, List.setIfInBounds_toArray, List.set_cons_zero, List.set_cons_succ])))
          go_ret
          exact ⟨rfl, .shut HL.out.1 HL.out.2 H.tail⟩
        · rw [if_neg g1] at hE
          have g1' : decide (n0 < debOf S.L f t c) = false := decide_eq_false g1
          by_cases g2 : isLine S.L f t c = false ∧ 0 < n0 ∧ 64 ≤ m
          · rw [if_pos g2] at hE
            rw [hE, hS (by rw [hE]; decide)]
            obtain ⟨g2, g3, g4⟩ := g2
            rw [g2] at R
            clear hE hS hS0 M HAS G k1 k2 hl1 hl2 m1 m2 m3 p1 p2 g2 g1
            generalize debOf S.L f t c = dd at *
            generalize limOf S.L f t c = ll at *
            go_enter Tryz.func20, Tryz.ntmps20
            go_wp2_with (first | go_skip | ((with_reducible refine AnsH.call (by assumption) H ?_); clear H; intro _ H) | ((with_reducible show wpList _ _ _ (_ :: _) _ _); (with_reducible apply wpl_allocRH row_line); (· rfl); (· exact H); (clear H; intro pe _ H); (simp only [Act.put, List.setIfInBounds_toArray, List.set_cons_zero, List.set_cons_succ])) | ((with_reducible show wpList _ _ _ (_ :: _) _ _); (with_reducible apply wpl_storeRH row_line); (· rfl); (· rfl); (· rfl); (· with_reducible exact line_cells ..); (· exact H); (· (repeat (first | (with_reducible exact List.mem_cons_self) | with_reducible apply List.mem_cons_of_mem))); (· (simp only [line_sz, Nat.reduceAdd, Nat.reduceLeDiff, Nat.le_refl]; done)); (· with_reducible exact line_splice ..); (· (repeat (first | (with_reducible exact Repl.here) | with_reducible apply Repl.there))); (clear H; intro _ H); (simp only [Act.put, List.setIfInBounds_toArray, List.set_cons_zero, List.set_cons_succ])) | ((with_reducible show wpList _ _ _ (_ :: _) _ _); (with_reducible apply wpl_loadCH); (· exact cell_i64); (· rfl); (· rfl); (· exact H); (· (repeat (first | (with_reducible exact List.mem_cons_self) | with_reducible apply List.mem_cons_of_mem))); (· first | exact line_g3 .. | exact line_g4 ..); (simp only [Act.put, List.setIfInBounds_toArray, List.set_cons_zero, List.set_cons_succ])) | ((with_reducible show wpList _ _ _ (_ :: _) _ _); (with_reducible apply wpl_loadCH); (· exact cell_lins); (· rfl); (· rfl); (· exact H); (· exact List.mem_cons_of_mem _ MM.out); (· exact refA_g1 ..); (simp only [Act.put, List.setIfInBounds_toArray, List.set_cons_zero, List.set_cons_succ])))
            go_ret
            exact ⟨rfl, .shut HL.out.1 HL.out.2 H.tail⟩
          · rw [if_neg g2] at hE
            rw [hE, hS0 hE]
            have HC : (isLine S.L f t c = true ∨ (isLine S.L f t c = false ∧ n0 = 0) ∨ (isLine S.L f t c = false ∧ 0 < n0 ∧ m < 64)) := by
              cases hi : isLine S.L f t c
              · by_cases h0 : n0 = 0
                · exact .inr (.inl ⟨rfl, h0⟩)
                · exact .inr (.inr ⟨rfl, by omega, by
                    by_cases hm : m < 64
                    · exact hm
                    · exact absurd ⟨hi, by omega, by omega⟩ g2⟩)
              · exact .inl rfl
            clear hE hS hS0 M HAS G k1 k2 hl1 hl2 m1 m2 m3 p1 p2 g1 g2
            generalize debOf S.L f t c = dd at *
            generalize limOf S.L f t c = ll at *
            generalize isLine S.L f t c = ii at *
            rcases HC with g2 | ⟨g2, g3⟩ | ⟨g2, g3, g4⟩
            · subst g2
              go_enter Tryz.func20, Tryz.ntmps20
              go_wp2_with (first | go_skip | ((with_reducible refine AnsH.call (by assumption) H ?_); clear H; intro _ H) | ((with_reducible show wpList _ _ _ (_ :: _) _ _); (with_reducible apply wpl_allocRH row_line); (· rfl); (· exact H); (clear H; intro pe _ H); (simp only [Act.put, List.setIfInBounds_toArray, List.set_cons_zero, List.set_cons_succ])) | ((with_reducible show wpList _ _ _ (_ :: _) _ _); (with_reducible apply wpl_storeRH row_line); (· rfl); (· rfl); (· rfl); (· with_reducible exact line_cells ..); (· exact H); (· (repeat (first | (with_reducible exact List.mem_cons_self) | with_reducible apply List.mem_cons_of_mem))); (· (simp only [line_sz, Nat.reduceAdd, Nat.reduceLeDiff, Nat.le_refl]; done)); (· with_reducible exact line_splice ..); (· (repeat (first | (with_reducible exact Repl.here) | with_reducible apply Repl.there))); (clear H; intro _ H); (simp only [Act.put, List.setIfInBounds_toArray, List.set_cons_zero, List.set_cons_succ])) | ((with_reducible show wpList _ _ _ (_ :: _) _ _); (with_reducible apply wpl_loadCH); (· exact cell_i64); (· rfl); (· rfl); (· exact H); (· (repeat (first | (with_reducible exact List.mem_cons_self) | with_reducible apply List.mem_cons_of_mem))); (· first | exact line_g3 .. | exact line_g4 ..); (simp only [Act.put, List.setIfInBounds_toArray, List.set_cons_zero, List.set_cons_succ])) | ((with_reducible show wpList _ _ _ (_ :: _) _ _); (with_reducible apply wpl_loadCH); (· exact cell_lins); (· rfl); (· rfl); (· exact H); (· exact List.mem_cons_of_mem _ MM.out); (· exact refA_g1 ..); (simp only [Act.put, List.setIfInBounds_toArray, List.set_cons_zero, List.set_cons_succ])))
              refine (ST.out _ _ (RefH.under HL.out.1 HL.out.2 H)).mono ?_
              clear H
              rintro e w5 ⟨rfl, HH⟩
              have HH := Lib.hid HH.drop1
              have H := Heap.start w
              go_wp2_with (go_skip)
              go_ret
              exact ⟨rfl, HH.out⟩
            · subst g2
              subst g3
              go_enter Tryz.func20, Tryz.ntmps20
              go_wp2_with (first | go_skip | ((with_reducible refine AnsH.call (by assumption) H ?_); clear H; intro _ H) | ((with_reducible show wpList _ _ _ (_ :: _) _ _); (with_reducible apply wpl_allocRH row_line); (· rfl); (· exact H); (clear H; intro pe _ H); (simp only [Act.put, List.setIfInBounds_toArray, List.set_cons_zero, List.set_cons_succ])) | ((with_reducible show wpList _ _ _ (_ :: _) _ _); (with_reducible apply wpl_storeRH row_line); (· rfl); (· rfl); (· rfl); (· with_reducible exact line_cells ..); (· exact H); (· (repeat (first | (with_reducible exact List.mem_cons_self) | with_reducible apply List.mem_cons_of_mem))); (· (simp only [line_sz, Nat.reduceAdd, Nat.reduceLeDiff, Nat.le_refl]; done)); (· with_reducible exact line_splice ..); (· (repeat (first | (with_reducible exact Repl.here) | with_reducible apply Repl.there))); (clear H; intro _ H); (simp only [Act.put, List.setIfInBounds_toArray, List.set_cons_zero, List.set_cons_succ])) | ((with_reducible show wpList _ _ _ (_ :: _) _ _); (with_reducible apply wpl_loadCH); (· exact cell_i64); (· rfl); (· rfl); (· exact H); (· (repeat (first | (with_reducible exact List.mem_cons_self) | with_reducible apply List.mem_cons_of_mem))); (· first | exact line_g3 .. | exact line_g4 ..); (simp only [Act.put, List.setIfInBounds_toArray, List.set_cons_zero, List.set_cons_succ])) | ((with_reducible show wpList _ _ _ (_ :: _) _ _); (with_reducible apply wpl_loadCH); (· exact cell_lins); (· rfl); (· rfl); (· exact H); (· exact List.mem_cons_of_mem _ MM.out); (· exact refA_g1 ..); (simp only [Act.put, List.setIfInBounds_toArray, List.set_cons_zero, List.set_cons_succ])))
              refine (ST.out _ _ (RefH.under HL.out.1 HL.out.2 H)).mono ?_
              clear H
              rintro e w5 ⟨rfl, HH⟩
              have HH := Lib.hid HH.drop1
              have H := Heap.start w
              go_wp2_with (go_skip)
              go_ret
              exact ⟨rfl, HH.out⟩
            · subst g2
              go_enter Tryz.func20, Tryz.ntmps20
              go_wp2_with (first | go_skip | ((with_reducible refine AnsH.call (by assumption) H ?_); clear H; intro _ H) | ((with_reducible show wpList _ _ _ (_ :: _) _ _); (with_reducible apply wpl_allocRH row_line); (· rfl); (· exact H); (clear H; intro pe _ H); (simp only [Act.put, List.setIfInBounds_toArray, List.set_cons_zero, List.set_cons_succ])) | ((with_reducible show wpList _ _ _ (_ :: _) _ _); (with_reducible apply wpl_storeRH row_line); (· rfl); (· rfl); (· rfl); (· with_reducible exact line_cells ..); (· exact H); (· (repeat (first | (with_reducible exact List.mem_cons_self) | with_reducible apply List.mem_cons_of_mem))); (· (simp only [line_sz, Nat.reduceAdd, Nat.reduceLeDiff, Nat.le_refl]; done)); (· with_reducible exact line_splice ..); (· (repeat (first | (with_reducible exact Repl.here) | with_reducible apply Repl.there))); (clear H; intro _ H); (simp only [Act.put, List.setIfInBounds_toArray, List.set_cons_zero, List.set_cons_succ])) | ((with_reducible show wpList _ _ _ (_ :: _) _ _); (with_reducible apply wpl_loadCH); (· exact cell_i64); (· rfl); (· rfl); (· exact H); (· (repeat (first | (with_reducible exact List.mem_cons_self) | with_reducible apply List.mem_cons_of_mem))); (· first | exact line_g3 .. | exact line_g4 ..); (simp only [Act.put, List.setIfInBounds_toArray, List.set_cons_zero, List.set_cons_succ])) | ((with_reducible show wpList _ _ _ (_ :: _) _ _); (with_reducible apply wpl_loadCH); (· exact cell_lins); (· rfl); (· rfl); (· exact H); (· exact List.mem_cons_of_mem _ MM.out); (· exact refA_g1 ..); (simp only [Act.put, List.setIfInBounds_toArray, List.set_cons_zero, List.set_cons_succ])))
              refine (ST.out _ _ (RefH.under HL.out.1 HL.out.2 H)).mono ?_
              clear H
              rintro e w5 ⟨rfl, HH⟩
              have HH := Lib.hid HH.drop1
              have H := Heap.start w
              go_wp2_with (go_skip)
              go_ret
              exact ⟨rfl, HH.out⟩
      · rw [if_pos (.inr p2)] at hE
        rw [hE, hS (by rw [hE]; decide)]
        rw [decide_eq_true p1] at A1
        rw [decide_eq_false p2] at A2
        clear hE hS hS0 M HAS G hl1 hl2 p1 p2
        go_enter Tryz.func20, Tryz.ntmps20
        go_wp2_with (first | go_skip | ((with_reducible refine AnsH.call (by assumption) H ?_); clear H; intro _ H))
        go_ret
        exact ⟨rfl, .shut HL.out.1 HL.out.2 H⟩
    · rw [if_pos (.inl p1)] at hE
      rw [hE, hS (by rw [hE]; decide)]
      rw [decide_eq_false p1] at A1
      clear hE hS hS0 M HAS G hl1 hl2 p1 A2
      go_enter Tryz.func20, Tryz.ntmps20
      go_wp2_with (first | go_skip | ((with_reducible refine AnsH.call (by assumption) H ?_); clear H; intro _ H))
      go_ret
      exact ⟨rfl, .shut HL.out.1 HL.out.2 H⟩
end
end Go.Proofs.YtgobnamhdkbbeaaGreat

/- countinghouseref03: New, Copy, Position, Total. -/
namespace Go.Proofs.YtgobnamhdkbbeaaGreat
open Go.RowKit
set_option linter.unusedSimpArgs false
set_option linter.unusedVariables false
theorem run_buildRef0 (w : World) : (Instr.build 61 #[]).run Tryz.prog w = .ok (.agg (refA (.slice none 0 0) (.slice none 0 0))) w := by kernel_rfl
section
variable {W : World} {loud : List Nat} {K : List Thing → Act → Prop} {base l : List Thing} {a : Act} {lo : List Oper} {ks : List Nat} {k : Nat} {dst : Option Tmp} {ty : TypeId} {pos : String} {after : Array Edge}
end
section
set_option maxRecDepth 100000
variable {ops : Array Oper} {rest : List Oper} {a : Act} {W w : World} {l : List Thing} {K : Act → Prop} {Q : Exit → Act → World → Prop}
theorem wpl_buildRef0 {dst : Option Tmp} {ty : TypeId} {pos : String} {after : Array Edge} {guard : Option (Nat × Bool)} (hw : Region.wanted ⟨dst, .build 61 #[], ty, pos, after, guard⟩ (yielded ops a.tmps) = true)
    (h : wpList Tryz.prog ops Q rest (a.put dst (.agg (refA (.slice none 0 0) (.slice none 0 0)))) w) : wpList Tryz.prog ops Q (⟨dst, .build 61 #[], ty, pos, after, guard⟩ :: rest) a w := by
  refine wpl_pure hw _ (fun w => ?_) h
  unfold execOp
  simp only [List.map_toArray, List.map_nil, Sem.run_bind, run_buildRef0, Result.andThen_ok, Sem.run_pure]
end
section
variable {W w : World} {l : List Thing} {p : Nat} {S : Lgr}
set_option maxRecDepth 100000
set_option maxHeartbeats 8000000
theorem rnewL_H (H : Heap W l w) : Calls Tryz.prog 6 #[] w fun e w' => ∃ p, e = .returned (.pointer (some ⟨p, 0, none⟩)) ∧ RefH W l p Lgr.new w' := by
  go_enter Tryz.func6, Tryz.ntmps6
  go_wp2_with (first | ((with_reducible show wpList _ _ _ (_ :: _) _ _); (with_reducible apply wpl_buildRef0); (· rfl); (simp only [Act.put, List.setIfInBounds_toArray, List.set_cons_zero, List.set_cons_succ])) | go_skip | ((with_reducible show wpList _ _ _ (_ :: _) _ _); (with_reducible apply wpl_boxRH); (· rfl); (· rfl); (· exact H); (clear H; intro px _ H); (simp only [Act.put, List.setIfInBounds_toArray, List.set_cons_zero, List.set_cons_succ])))
  go_ret
  refine ⟨px, rfl, none, 0, 0, none, 0, 0, rfl, rfl, ?_⟩
  exact ((H.nilRow 30 1).nilRow 65 5).perm ((List.Perm.cons _ (List.Perm.swap _ _ _)).trans ((List.Perm.swap _ _ _).trans (List.Perm.cons _ (List.Perm.swap _ _ _))))
end
end Go.Proofs.YtgobnamhdkbbeaaGreat
