/- countinghouseref05.New. -/
import Derived.Test.YtglehneaphigdaaRef05b
namespace Go.Proofs.Ytglehneaphigdaa
open Go.RowKit
set_option linter.unusedSimpArgs false
set_option linter.unusedVariables false
def RNewPost (W : World) (l : List Thing) (F : List Flw) (e : Ending) (w' : World) : Prop :=
  (newG F = none ∧ e = .returned (.tuple #[.pointer none, .int .i64 1]) ∧ Heap W l w') ∨ (∃ c p, newG F = some c ∧ e = .returned (.tuple #[.pointer (some ⟨p, 0, none⟩), .int .i64 0]) ∧ GoodC c ∧ BndC c ∧ RgH W l p c w')
theorem edges_zero0 : edgesOf zeroC = [] := List.eq_nil_of_length_eq_zero (by decide +kernel)
theorem RgH.new {W w : World} {l : List Thing} {p : Nat} (H : Heap W (RgT p (.slice none 0 0) :: l) w) : RgH W l p zeroC w := by
  refine ⟨none, 0, ?_⟩
  rw [edges_zero0]
  exact (H.nilRow _ _).perm (.swap _ _ _)
def endsB (a b : Nat) (x : Flw) : Bool := decide (x.f = a ∧ x.t = b)
structure RN (W : World) (l : List Thing) (p : Nat) (F : List Flw) (en : Nat) (i : Value) (wr : World) : Prop where
  out : ∃ (k : Nat) (t : Nat → Nat → Bool) (c : Caps), i = .int .i64 (k : Int) ∧ k ≤ en ∧ newG F = newS (F.drop k) t c ∧ (∀ a b, t a b = (F.take k).any (endsB a b)) ∧ GoodC c ∧ BndC c ∧ RgH W l p c wr
structure RN2 (W : World) (l : List Thing) (F : List Flw) (a b n : Nat) (i : Value) (wr : World) : Prop where
  out : ∃ k : Nat, i = .int .i64 (k : Int) ∧ k ≤ n ∧ (F.take k).any (endsB a b) = false ∧ Heap W l wr
theorem row_rg : RowTy 42 1 (rgC (.slice none 0 0)) := ⟨⟨_, Try.underlying42, rfl⟩, by kernel_rfl, by kernel_rfl⟩
theorem any_mono {F : List Flw} {f : Flw → Bool} {k n : Nat} (h : k ≤ n) (h2 : (F.take k).any f = true) : (F.take n).any f = true := by
  rw [List.any_eq_true] at *
  obtain ⟨x, hx, hf⟩ := h2
  refine ⟨x, ?_, hf⟩
  have : F.take k = (F.take n).take k := by rw [List.take_take, Nat.min_eq_left h]
  rw [this] at hx
  exact List.mem_of_mem_take hx
section
variable {W w : World} {l : List Thing}
set_option maxRecDepth 100000
set_option maxHeartbeats 4000000
theorem rnew_H (ea : Option Addr) (en ec : Nat) (F : List Flw) (hl : F.length = en) (hn : en ≤ 1000000) (hF : ∀ x ∈ F, FlwOk x) (R : ∀ l' w', (∀ x ∈ l, x ∈ l') → Heap W l' w' → Rd w' ea (flwL F)) (H : Heap W l w) :
    Calls Try.prog 15 #[.slice ea en ec] w (RNewPost W l F) := by
  have HL := Lib.hid hl
  have HF := Lib.hid hF
  have HR := Lib.hid R
  clear hl hF R
  go_enter Try.func15, Try.ntmps15
  go_wp2_with (first | go_skip | ((with_reducible show wpList _ _ _ (_ :: _) _ _); (with_reducible apply wpl_boxRH); (· rfl); (· rfl); (· exact H); (clear H; intro p _ H); (simp only [Act.put, List.setIfInBounds_toArray, List.set_cons_zero, List.set_cons_succ])))
  have H0 := RgH.new H
  clear H
  go_loopw [5] (fun i wr => RN W l p F en i wr) (fun i _ => en - (intOf i).toNat)
  case atStart => exact ⟨0, fun _ _ => false, zeroC, rfl, by omega, rfl, fun _ _ => rfl, GoodC.zero, BndC.zero, H0⟩
  case round =>
    obtain ⟨k, t, c, rfl, hk, hG, ht, hgc, hbc, H'⟩ := hrel.out
    clear H0 hrel
    by_cases hlt : k < en
    · have hkF : k < F.length := by rw [HL.out]; exact hlt
      have hok := HF.out F[k] (List.getElem_mem hkF)
      have hat := flwL_at F k hkF
      have hx : F[k]? = some F[k] := List.getElem?_eq_getElem hkF
      have hlen : k * 3 + 3 ≤ (flwL F).length := by rw [flwL_len]; omega
      have htk : F.take (k + 1) = F.take k ++ [F[k]] := by rw [List.take_add_one, hx]; rfl
      rw [List.drop_eq_getElem_cons hkF] at hG
      generalize F[k] = x at *
      obtain ⟨a, b, n⟩ := x
      obtain ⟨o1, o2, o3, o4⟩ := hok
      simp only at o1 o2 o3 o4
      have hrow : (((flwL F).drop (k * 3)).take 3).toArray = flow a b n := by rw [hat]; rfl
      obtain ⟨ra, rcc, H⟩ := H'
      obtain ⟨eb, eo, rfl, _⟩ := (HR.out _ _ (fun x hx => List.mem_cons_of_mem _ (List.mem_cons_of_mem _ hx)) H).lt (by omega)
      have HTK := Lib.hid htk
      have HT := Lib.hid ht
      have HGB := Lib.hid (And.intro hgc hbc)
      clear hat hkF hx htk ht hgc hbc
      generalize hNE : (edgesOf c).length = NE at *
      have HNE := Lib.hid hNE
      clear hNE
      by_cases hb : edgeB ⟨a, b, n⟩ = true
      · have hb2 := hb
        unfold edgeB mayP at hb2
        simp at hb2
        have hma : mayP a = true := by unfold mayP; simp; omega
        have hmb : mayP b = true := by unfold mayP; simp; omega
        have g1 : decide ((a : Int) < 1) = false := by simp; omega
        have g2 : decide ((a : Int) > 16) = false := by simp; omega
        have g3 : decide ((b : Int) < 1) = false := by simp; omega
        have g4 : decide ((b : Int) > 16) = false := by simp; omega
        have g5 : ((a : Int) == (b : Int)) = false := by simp; omega
        have g6 : decide (n < 0) = false := by simp; omega
        have g7 : decide (n > 2199023255552) = false := by simp; omega
        have n0 : 0 ≤ n := by omega
        have n1 : n ≤ 4611686018427387904 := by omega
        have HB := Lib.hid hb
        have HG := Lib.hid hG
        have HM := Lib.hid (And.intro hma hmb)
        clear hb hb2 hG hma hmb
        go_wp2_with (first
          | go_skip
          | ((with_reducible show wpList _ _ _ (_ :: _) _ _); (with_reducible apply wpl_loadRdR row_flow); (· rfl); (· rfl); (· exact HR.out _ _ (fun x hx => by (repeat (first | (with_reducible exact hx) | with_reducible apply List.mem_cons_of_mem))) H); (· rfl); (· exact hlen); (· decide); (· exact hrow); (simp only [Act.put, List.setIfInBounds_toArray, List.set_cons_zero, List.set_cons_succ]))
          | ((with_reducible show wpList _ _ _ (_ :: _) _ _); (with_reducible apply wpl_allocRH row_flow); (· rfl); (· exact H); (clear H; intro px _ H); (simp only [Act.put, List.setIfInBounds_toArray, List.set_cons_zero, List.set_cons_succ]))
          | ((with_reducible show wpList _ _ _ (_ :: _) _ _); (with_reducible apply wpl_storeRH row_flow); (· rfl); (· rfl); (· rfl); (· with_reducible exact flow_cells ..); (· exact H); (· (repeat (first | (with_reducible exact List.mem_cons_self) | with_reducible apply List.mem_cons_of_mem))); (· (simp only [flow_sz, Nat.reduceAdd, Nat.reduceLeDiff, Nat.le_refl]; done)); (· with_reducible exact flow_splice ..); (· (repeat (first | (with_reducible exact Repl.here) | with_reducible apply Repl.there))); (clear H; intro _ H); (simp only [Act.put, List.setIfInBounds_toArray, List.set_cons_zero, List.set_cons_succ]))
          | ((with_reducible show wpList _ _ _ (_ :: _) _ _); (with_reducible apply wpl_loadCH); (· first | exact cell_party | exact cell_i64); (· rfl); (· rfl); (· exact H); (· (repeat (first | (with_reducible exact List.mem_cons_self) | with_reducible apply List.mem_cons_of_mem))); (· (with_reducible first | exact flow_g0 .. | exact flow_g1 .. | exact flow_g2 ..)); (simp only [Act.put, List.setIfInBounds_toArray, List.set_cons_zero, List.set_cons_succ])))
        have H0 := H
        clear H
        go_loopw [7] (fun i wr => RN2 W (Cel px (flow a b n) 35 :: RgT p (.slice ra NE rcc) :: FlT (.slice ra NE rcc) NE (edgesOf c) :: l) F a b k i wr) (fun i _ => k - (intOf i).toNat)
        case atStart => exact ⟨0, rfl, by omega, rfl, H0⟩
        case round =>
          obtain ⟨j, rfl, hj, hno, H'⟩ := hrel.out
          clear H0 hrel
          have H := H'
          clear H'
          by_cases hlt2 : j < k
          · have hjF : j < F.length := by rw [HL.out]; omega
            have hy : F[j]? = some F[j] := List.getElem?_eq_getElem hjF
            have hoky := HF.out F[j] (List.getElem_mem hjF)
            have htj : F.take (j + 1) = F.take j ++ [F[j]] := by rw [List.take_add_one, hy]; rfl
            generalize F[j] = y at *
            have HC := Lib.hid (show ∀ w', Heap W (Cel px (flow a b n) 35 :: RgT p (.slice ra NE rcc) :: FlT (.slice ra NE rcc) NE (edgesOf c) :: l) w' → _ from fun w' h => flwL_rd (HR.out _ w' (fun x hx => by (repeat (first | (with_reducible exact hx) | with_reducible apply List.mem_cons_of_mem))) h) hy)
            obtain ⟨yf, yt, yn⟩ := y
            obtain ⟨q1, q2, q3, q4⟩ := hoky
            simp only at q1 q2 q3 q4
            have HTJ := Lib.hid htj
            have HNO := Lib.hid hno
            have jn : j < en := by omega
            clear hjF hy htj hno
            by_cases hsame : yf = a ∧ yt = b
            · obtain ⟨rfl, rfl⟩ := hsame
              have e1 : ((yf : Int) == (yf : Int)) = true := by simp
              have e2 : ((yt : Int) == (yt : Int)) = true := by simp
              go_wp2_with (go_skip)
              refine wp_region_H H (by kernel_rfl) (by kernel_rfl) ?_
              repeat (first | go_big_quiet_skip | ((with_reducible apply wpQ_loadCH); (· first | exact cell_party | exact cell_i64); (· rfl); (· rfl); (· (repeat (first | (with_reducible exact List.mem_cons_self) | with_reducible apply List.mem_cons_of_mem))); (· (with_reducible first | exact flow_g0 .. | exact flow_g1 .. | exact flow_g2 ..)); (simp only [Act.put, List.setIfInBounds_toArray, List.set_cons_zero, List.set_cons_succ])) | ((with_reducible apply wpQ_loadAt); (· first | exact cell_party | exact cell_i64); (· rfl); (· rfl); (· first | exact fun w' h => (HC.out w' h).1 | exact fun w' h => (HC.out w' h).2.1); (simp only [Act.put, List.setIfInBounds_toArray, List.set_cons_zero, List.set_cons_succ])) | go_big_quiet_step (fail))
              refine wpQuiet_nil ?_
              clear H
              intro _ H
              go_wp2_with (go_skip)
              go_ret2
              refine .inl ⟨?_, rfl, H.tail.tail.tail⟩
              rw [HG.out, newS_no]
              have : t yf yt = true := by
                rw [HT.out]
                refine any_mono (k := j + 1) (by omega) ?_
                rw [HTJ.out, List.any_append]
                simp [endsB]
              rw [this]
              simp
            · have hcase : ((yf : Int) == (a : Int)) = false ∨ (((yf : Int) == (a : Int)) = true ∧ ((yt : Int) == (b : Int)) = false) := by
                by_cases e : yf = a
                · subst e
                  refine .inr ⟨by simp, ?_⟩
                  have : yt ≠ b := fun e2 => hsame ⟨rfl, e2⟩
                  simp; omega
                · exact .inl (by simp; omega)
              have HS := Lib.hid (show (F.take (j + 1)).any (endsB a b) = false by
                rw [HTJ.out, List.any_append, HNO.out]
                simp [endsB]
                intro e1 e2
                exact hsame ⟨e1, e2⟩)
              clear hsame
              rcases hcase with e1 | ⟨e1, e2⟩
              all_goals
                go_wp2_with (go_skip)
                refine wp_region_H H (by kernel_rfl) (by kernel_rfl) ?_
                repeat (first | go_big_quiet_skip | ((with_reducible apply wpQ_loadCH); (· first | exact cell_party | exact cell_i64); (· rfl); (· rfl); (· (repeat (first | (with_reducible exact List.mem_cons_self) | with_reducible apply List.mem_cons_of_mem))); (· (with_reducible first | exact flow_g0 .. | exact flow_g1 .. | exact flow_g2 ..)); (simp only [Act.put, List.setIfInBounds_toArray, List.set_cons_zero, List.set_cons_succ])) | ((with_reducible apply wpQ_loadAt); (· first | exact cell_party | exact cell_i64); (· rfl); (· rfl); (· first | exact fun w' h => (HC.out w' h).1 | exact fun w' h => (HC.out w' h).2.1); (simp only [Act.put, List.setIfInBounds_toArray, List.set_cons_zero, List.set_cons_succ])) | go_big_quiet_step (fail))
                refine wpQuiet_nil ?_
                clear H
                intro _ H
                go_wp2_with (go_skip)
                refine ⟨?_, ?_⟩
                · exact ⟨⟨j + 1, by go_num, by omega, HS.out, H⟩⟩
                · simp [intOf]; omega
          · obtain rfl : k = j := by omega
            have HTF := Lib.hid (show t a b = false by rw [HT.out]; exact hno)
            clear hno
            go_wp2_with (first | go_skip | ((with_reducible show wpList _ _ _ (_ :: _) _ _); (with_reducible apply wpl_loadCH); (· first | exact cell_party | exact cell_i64); (· rfl); (· rfl); (· exact H); (· (repeat (first | (with_reducible exact List.mem_cons_self) | with_reducible apply List.mem_cons_of_mem))); (· (with_reducible first | exact flow_g0 .. | exact flow_g1 .. | exact flow_g2 ..)); (simp only [Act.put, List.setIfInBounds_toArray, List.set_cons_zero, List.set_cons_succ])))
            refine (rset_H (l := Cel px (flow a b n) 35 :: l) c a b n HM.out.1 HM.out.2 n0 n1 HGB.out.1 HGB.out.2 ⟨ra, rcc, by rw [HNE.out]; exact (H.perm (.swap _ _ _)).perm (.cons _ (.swap _ _ _))⟩).mono ?_
            clear H
            rintro e w1 ⟨rfl, ra2, rcc2, H⟩
            go_wp2_with (go_skip)
            refine ⟨?_, ?_⟩
            · refine ⟨⟨k + 1, upd2 t a b true, upd2 c a b n, by go_num, by omega, ?_, fun x y => ?_, HGB.out.1.upd HM.out.1 HM.out.2 n0, HGB.out.2.upd n1, ra2, rcc2, H.drop (.there (.there .here))⟩⟩
              · rw [HG.out, newS_yes (by rw [HB.out, HTF.out]; rfl)]
              · rw [HTK.out, List.any_append, ← HT.out]
                unfold upd2 endsB
                by_cases e : x = a ∧ y = b
                · obtain ⟨rfl, rfl⟩ := e; simp
                · rw [if_neg e]
                  have : ¬ (a = x ∧ b = y) := fun ⟨e1, e2⟩ => e ⟨e1.symm, e2.symm⟩
                  simp [this]
            · simp [intOf]; omega
      · rw [newS_no (by simp only [Bool.not_eq_true] at hb; rw [hb]; rfl)] at hG
        have HG := Lib.hid hG
        have hcase : (decide ((a : Int) < 1) = true) ∨ (decide ((a : Int) < 1) = false ∧ decide ((a : Int) > 16) = true) ∨ (decide ((a : Int) < 1) = false ∧ decide ((a : Int) > 16) = false ∧ decide ((b : Int) < 1) = true) ∨ (decide ((a : Int) < 1) = false ∧ decide ((a : Int) > 16) = false ∧ decide ((b : Int) < 1) = false ∧ decide ((b : Int) > 16) = true) ∨ (decide ((a : Int) < 1) = false ∧ decide ((a : Int) > 16) = false ∧ decide ((b : Int) < 1) = false ∧ decide ((b : Int) > 16) = false ∧ ((a : Int) == (b : Int)) = true) ∨ (decide ((a : Int) < 1) = false ∧ decide ((a : Int) > 16) = false ∧ decide ((b : Int) < 1) = false ∧ decide ((b : Int) > 16) = false ∧ ((a : Int) == (b : Int)) = false ∧ decide (n < 0) = true) ∨ (decide ((a : Int) < 1) = false ∧ decide ((a : Int) > 16) = false ∧ decide ((b : Int) < 1) = false ∧ decide ((b : Int) > 16) = false ∧ ((a : Int) == (b : Int)) = false ∧ decide (n < 0) = false ∧ decide (n > 2199023255552) = true) := by
          simp only [decide_eq_true_eq, decide_eq_false_iff_not, beq_iff_eq, beq_eq_false_iff_ne, ne_eq]
          unfold edgeB mayP at hb
          simp at hb
          omega
        clear hb hG
        rcases hcase with g1 | ⟨g1, g2⟩ | ⟨g1, g2, g3⟩ | ⟨g1, g2, g3, g4⟩ | ⟨g1, g2, g3, g4, g5⟩ | ⟨g1, g2, g3, g4, g5, g6⟩ | ⟨g1, g2, g3, g4, g5, g6, g7⟩
        all_goals
          go_wp2_with (first
            | go_skip
            | ((with_reducible show wpList _ _ _ (_ :: _) _ _); (with_reducible apply wpl_loadRdR row_flow); (· rfl); (· rfl); (· exact HR.out _ _ (fun x hx => by (repeat (first | (with_reducible exact hx) | with_reducible apply List.mem_cons_of_mem))) H); (· rfl); (· exact hlen); (· decide); (· exact hrow); (simp only [Act.put, List.setIfInBounds_toArray, List.set_cons_zero, List.set_cons_succ]))
            | ((with_reducible show wpList _ _ _ (_ :: _) _ _); (with_reducible apply wpl_allocRH row_flow); (· rfl); (· exact H); (clear H; intro px _ H); (simp only [Act.put, List.setIfInBounds_toArray, List.set_cons_zero, List.set_cons_succ]))
            | ((with_reducible show wpList _ _ _ (_ :: _) _ _); (with_reducible apply wpl_storeRH row_flow); (· rfl); (· rfl); (· rfl); (· with_reducible exact flow_cells ..); (· exact H); (· (repeat (first | (with_reducible exact List.mem_cons_self) | with_reducible apply List.mem_cons_of_mem))); (· (simp only [flow_sz, Nat.reduceAdd, Nat.reduceLeDiff, Nat.le_refl]; done)); (· with_reducible exact flow_splice ..); (· (repeat (first | (with_reducible exact Repl.here) | with_reducible apply Repl.there))); (clear H; intro _ H); (simp only [Act.put, List.setIfInBounds_toArray, List.set_cons_zero, List.set_cons_succ]))
            | ((with_reducible show wpList _ _ _ (_ :: _) _ _); (with_reducible apply wpl_loadCH); (· first | exact cell_party | exact cell_i64); (· rfl); (· rfl); (· exact H); (· (repeat (first | (with_reducible exact List.mem_cons_self) | with_reducible apply List.mem_cons_of_mem))); (· (with_reducible first | exact flow_g0 .. | exact flow_g1 .. | exact flow_g2 ..)); (simp only [Act.put, List.setIfInBounds_toArray, List.set_cons_zero, List.set_cons_succ])))
          go_ret2
          exact .inl ⟨HG.out, rfl, H.tail.tail.tail⟩
    · obtain rfl : en = k := by omega
      rw [List.drop_of_length_le (by rw [HL.out]; exact Nat.le_refl _)] at hG
      have HG := Lib.hid (show newG F = some c from hG)
      have HGB := Lib.hid (And.intro hgc hbc)
      clear hG ht hgc hbc
      obtain ⟨ra, rcc, H⟩ := H'
      go_wp2_with (go_skip)
      go_ret2
      exact .inr ⟨c, p, HG.out, rfl, HGB.out.1, HGB.out.2, ra, rcc, H⟩
end
end Go.Proofs.Ytglehneaphigdaa
