/- Part 14 of what several laws stand on: Pay9c, LedV, PayV, ShortB, Lives09p, LedTwo, Lives09, Open09, Flow5, Cut7, Reached7. -/
import Derived.Test.YtgobnamhdkbbeaaPayGPart13
/- payments: Pay, Most. -/
namespace Go.Proofs.Ytgobnamhdkbbeaa
open Go.RowKit
set_option linter.unusedSimpArgs false
set_option linter.unusedVariables false
set_option maxRecDepth 100000
structure PayL (W : World) (B : List Thing) (S : Lgr) (f t c : Nat) (n : Int) (v e i : Value) (wr : World) : Prop where
  out : ∃ k : Nat, k ≤ 3 ∧ v = .int .i64 0 ∧ e = .int .i64 0 ∧ i = .int .i64 (k : Int) ∧ (2 ≤ k → ¬ badPay f t c n) ∧ (3 ≤ k → (f : Int) ∈ S.P ∧ (t : Int) ∈ S.P) ∧ Heap W B wr
structure PayP (W : World) (l : List Thing) (p q : Nat) (S : Lgr) (c : Nat) (a : Option Addr) (cc : Nat) (Q : List Flw) (i : Value) (wr : World) : Prop where
  out : ∃ k : Nat, k ≤ Q.length ∧ i = .int .i64 (k : Int) ∧ Heap W (OwnT 32 3 (.slice a Q.length cc) Q.length (flwL Q) :: LdC p (pushLs S c (Q.take k)).P (some q) :: LdM q (pushLs S c (Q.take k)).L :: l) wr
theorem Fits.takeAll {c : Caps} {P : List Flw} (h : Fits c P) (k : Nat) : Fits c (P.take k) := h.take k
section
variable {W w : World} {l : List Thing} {p q : Nat} {S : Lgr}
set_option maxHeartbeats 8000000
theorem pay_H (f t c : Nat) (n : Int) (hf : f ≤ 255) (ht : t ≤ 255) (hc : c ≤ 255) (hn : -9223372036854775808 ≤ n ∧ n ≤ 9223372036854775807) (G : S.Good) (H : Heap W (LdC p S.P (some q) :: LdM q S.L :: l) w) :
    Calls Try.prog 21 #[.pointer (some ⟨p, 0, none⟩), .int .u8 (f : Int), .int .u8 (t : Int), .int .u8 (c : Int), .int .i64 n] w fun e w' => ∃ k e0 S', e = .returned (.tuple #[.int .i64 k, .int .i64 e0]) ∧ PayOut S f t c n k e0 S' ∧ Heap W (LdC p S'.P (some q) :: LdM q S'.L :: l) w' := by
  have HG := Lib.hid G
  have HN := Lib.hid hn
  clear G hn
  go_enter Try.func21, Try.ntmps21
  go_wp2_with (first
    | go_skip
    | ((with_reducible show wpList _ _ _ (_ :: _) _ _); (with_reducible apply wpl_allocRH row_pay); (· rfl); (· exact H); (clear H; intro px _ H); (simp only [Act.put, List.setIfInBounds_toArray, List.set_cons_zero, List.set_cons_succ]))
    | ((with_reducible show wpList _ _ _ (_ :: _) _ _); (with_reducible apply wpl_storeRH row_pay); (· rfl); (· rfl); (· rfl); (· with_reducible exact pay_cells ..); (· exact H); (· (repeat (first | (with_reducible exact List.mem_cons_self) | with_reducible apply List.mem_cons_of_mem))); (· (simp only [pay_sz, Nat.reduceAdd, Nat.reduceLeDiff, Nat.le_refl]; done)); (· with_reducible exact pay_splice ..); (· (repeat (first | (with_reducible exact Repl.here) | with_reducible apply Repl.there))); (clear H; intro _ H); (simp only [Act.put, List.setIfInBounds_toArray, List.set_cons_zero, List.set_cons_succ])))
  refine (checks_H H).mono ?_
  clear H
  rintro e w1 ⟨g, rfl, H⟩
  go_wp2_with (go_skip)
  have H0 := H
  clear H
  go_loopw [10, 11, 27] (fun v e i wr => PayL W (Cel g chkC 114 :: Cel px (payC (some ⟨p, 0, none⟩) (f : Int) (t : Int) (c : Int) n) 109 :: LdC p S.P (some q) :: LdM q S.L :: l) S f t c n v e i wr) (fun _ _ i _ => 3 - (intOf i).toNat)
  case atStart => exact ⟨0, by omega, rfl, rfl, rfl, fun h => by omega, fun h => by omega, H0⟩
  case round =>
    obtain ⟨k, hk, rfl, rfl, rfl, hb, hs, H⟩ := hrel.out
    clear H0 hrel
    have HB := Lib.hid hb
    have HS := Lib.hid hs
    clear hb hs
    by_cases h0 : k = 0
    · subst h0
      go_wp2_with (first
        | go_skip
        | ((with_reducible show wpList _ _ _ (_ :: _) _ _); (with_reducible apply wpl_loadRH row_chk); (· rfl); (· rfl); (· exact H); (· (repeat (first | (with_reducible exact List.mem_cons_self) | with_reducible apply List.mem_cons_of_mem))); (· (simp only [chkC_sz, Nat.reduceAdd, Nat.reduceLeDiff, Nat.le_refl]; done)); (· with_reducible exact chk_0); (simp only [Act.put, List.setIfInBounds_toArray, List.set_cons_zero, List.set_cons_succ]))
        | ((with_reducible show wpList _ _ _ (_ :: _) _ _); (with_reducible apply wpl_allocRH row_chk); (· rfl); (· exact H); (clear H; intro pc _ H); (simp only [Act.put, List.setIfInBounds_toArray, List.set_cons_zero, List.set_cons_succ]))
        | ((with_reducible show wpList _ _ _ (_ :: _) _ _); (with_reducible apply wpl_storeRH row_chk); (· rfl); (· rfl); (· rfl); (· with_reducible exact chk_cells ..); (· exact H); (· (repeat (first | (with_reducible exact List.mem_cons_self) | with_reducible apply List.mem_cons_of_mem))); (· (simp only [chk0_sz, Nat.reduceAdd, Nat.reduceLeDiff, Nat.le_refl]; done)); (· with_reducible exact chk_splice ..); (· (repeat (first | (with_reducible exact Repl.here) | with_reducible apply Repl.there))); (clear H; intro _ H); (simp only [Act.put, List.setIfInBounds_toArray, List.set_cons_zero, List.set_cons_succ]))
        | ((with_reducible show wpList _ _ _ (_ :: _) _ _); (with_reducible apply wpl_loadCH); (· exact cell_fn); (· rfl); (· rfl); (· exact H); (· (repeat (first | (with_reducible exact List.mem_cons_self) | with_reducible apply List.mem_cons_of_mem))); (· with_reducible exact chk_g0 ..); (simp only [Act.put, List.setIfInBounds_toArray, List.set_cons_zero, List.set_cons_succ]))
        | ((with_reducible show wpList _ _ _ (_ :: _) _ _); (with_reducible apply wpl_loadRH row_pay); (· rfl); (· rfl); (· exact H); (· (repeat (first | (with_reducible exact List.mem_cons_self) | with_reducible apply List.mem_cons_of_mem))); (· (simp only [pay_sz, Nat.reduceAdd, Nat.reduceLeDiff, Nat.le_refl]; done)); (· with_reducible exact pay_all ..); (simp only [Act.put, List.setIfInBounds_toArray, List.set_cons_zero, List.set_cons_succ])))
      have A1 := AnsH.on H (absent_A (p := p) (q := q) (S := S) (f : Int) (t : Int) (c : Int) n (by (repeat (first | (with_reducible exact List.mem_cons_self) | with_reducible apply List.mem_cons_of_mem))) (by (repeat (first | (with_reducible exact List.mem_cons_self) | with_reducible apply List.mem_cons_of_mem))))
      go_wp2_with (first | go_skip | ((with_reducible refine AnsH.call (by assumption) H ?_); clear H; intro _ H))
      refine ⟨⟨1, by omega, rfl, rfl, by go_num, fun h => by omega, fun h => by omega, H.tail⟩, ?measure0⟩
      case measure0 => simp [intOf]
    · by_cases h1 : k = 1
      · subst h1
        by_cases hbad : badPay f t c n
        · go_wp2_with (first
            | go_skip
            | ((with_reducible show wpList _ _ _ (_ :: _) _ _); (with_reducible apply wpl_loadRH row_chk); (· rfl); (· rfl); (· exact H); (· (repeat (first | (with_reducible exact List.mem_cons_self) | with_reducible apply List.mem_cons_of_mem))); (· (simp only [chkC_sz, Nat.reduceAdd, Nat.reduceLeDiff, Nat.le_refl]; done)); (· with_reducible exact chk_1); (simp only [Act.put, List.setIfInBounds_toArray, List.set_cons_zero, List.set_cons_succ]))
            | ((with_reducible show wpList _ _ _ (_ :: _) _ _); (with_reducible apply wpl_allocRH row_chk); (· rfl); (· exact H); (clear H; intro pc _ H); (simp only [Act.put, List.setIfInBounds_toArray, List.set_cons_zero, List.set_cons_succ]))
            | ((with_reducible show wpList _ _ _ (_ :: _) _ _); (with_reducible apply wpl_storeRH row_chk); (· rfl); (· rfl); (· rfl); (· with_reducible exact chk_cells ..); (· exact H); (· (repeat (first | (with_reducible exact List.mem_cons_self) | with_reducible apply List.mem_cons_of_mem))); (· (simp only [chk0_sz, Nat.reduceAdd, Nat.reduceLeDiff, Nat.le_refl]; done)); (· with_reducible exact chk_splice ..); (· (repeat (first | (with_reducible exact Repl.here) | with_reducible apply Repl.there))); (clear H; intro _ H); (simp only [Act.put, List.setIfInBounds_toArray, List.set_cons_zero, List.set_cons_succ]))
            | ((with_reducible show wpList _ _ _ (_ :: _) _ _); (with_reducible apply wpl_loadCH); (· exact cell_fn); (· rfl); (· rfl); (· exact H); (· (repeat (first | (with_reducible exact List.mem_cons_self) | with_reducible apply List.mem_cons_of_mem))); (· with_reducible exact chk_g0 ..); (simp only [Act.put, List.setIfInBounds_toArray, List.set_cons_zero, List.set_cons_succ]))
            | ((with_reducible show wpList _ _ _ (_ :: _) _ _); (with_reducible apply wpl_loadRH row_pay); (· rfl); (· rfl); (· exact H); (· (repeat (first | (with_reducible exact List.mem_cons_self) | with_reducible apply List.mem_cons_of_mem))); (· (simp only [pay_sz, Nat.reduceAdd, Nat.reduceLeDiff, Nat.le_refl]; done)); (· with_reducible exact pay_all ..); (simp only [Act.put, List.setIfInBounds_toArray, List.set_cons_zero, List.set_cons_succ])))
          have A1 := AnsH.on H (bad_A (some ⟨p, 0, none⟩) f t c n hf ht hc)
          rw [decide_eq_true hbad] at A1
          have HBB := Lib.hid hbad
          clear hbad
          go_wp2_with (first | go_skip | ((with_reducible refine AnsH.call (by assumption) H ?_); clear H; intro _ H))
          clear A1
          refine wp_region_H H (by kernel_rfl) (by kernel_rfl) ?_
          repeat (first | go_big_quiet_skip | ((with_reducible apply wpQ_loadCH); (· exact cell_err); (· rfl); (· rfl); (· (repeat (first | (with_reducible exact List.mem_cons_self) | with_reducible apply List.mem_cons_of_mem))); (· with_reducible exact chk_g1 ..); (simp only [Act.put, List.setIfInBounds_toArray, List.set_cons_zero, List.set_cons_succ])) | go_big_quiet_step (fail))
          refine wpQuiet_nil ?_
          clear H
          intro _ H
          go_wp2_with (go_skip)
          go_ret2
          exact ⟨0, 1, S, rfl, .inl ⟨HBB.out, rfl, rfl, rfl⟩, H.tail.tail.tail⟩
        · go_wp2_with (first
            | go_skip
            | ((with_reducible show wpList _ _ _ (_ :: _) _ _); (with_reducible apply wpl_loadRH row_chk); (· rfl); (· rfl); (· exact H); (· (repeat (first | (with_reducible exact List.mem_cons_self) | with_reducible apply List.mem_cons_of_mem))); (· (simp only [chkC_sz, Nat.reduceAdd, Nat.reduceLeDiff, Nat.le_refl]; done)); (· with_reducible exact chk_1); (simp only [Act.put, List.setIfInBounds_toArray, List.set_cons_zero, List.set_cons_succ]))
            | ((with_reducible show wpList _ _ _ (_ :: _) _ _); (with_reducible apply wpl_allocRH row_chk); (· rfl); (· exact H); (clear H; intro pc _ H); (simp only [Act.put, List.setIfInBounds_toArray, List.set_cons_zero, List.set_cons_succ]))
            | ((with_reducible show wpList _ _ _ (_ :: _) _ _); (with_reducible apply wpl_storeRH row_chk); (· rfl); (· rfl); (· rfl); (· with_reducible exact chk_cells ..); (· exact H); (· (repeat (first | (with_reducible exact List.mem_cons_self) | with_reducible apply List.mem_cons_of_mem))); (· (simp only [chk0_sz, Nat.reduceAdd, Nat.reduceLeDiff, Nat.le_refl]; done)); (· with_reducible exact chk_splice ..); (· (repeat (first | (with_reducible exact Repl.here) | with_reducible apply Repl.there))); (clear H; intro _ H); (simp only [Act.put, List.setIfInBounds_toArray, List.set_cons_zero, List.set_cons_succ]))
            | ((with_reducible show wpList _ _ _ (_ :: _) _ _); (with_reducible apply wpl_loadCH); (· exact cell_fn); (· rfl); (· rfl); (· exact H); (· (repeat (first | (with_reducible exact List.mem_cons_self) | with_reducible apply List.mem_cons_of_mem))); (· with_reducible exact chk_g0 ..); (simp only [Act.put, List.setIfInBounds_toArray, List.set_cons_zero, List.set_cons_succ]))
            | ((with_reducible show wpList _ _ _ (_ :: _) _ _); (with_reducible apply wpl_loadRH row_pay); (· rfl); (· rfl); (· exact H); (· (repeat (first | (with_reducible exact List.mem_cons_self) | with_reducible apply List.mem_cons_of_mem))); (· (simp only [pay_sz, Nat.reduceAdd, Nat.reduceLeDiff, Nat.le_refl]; done)); (· with_reducible exact pay_all ..); (simp only [Act.put, List.setIfInBounds_toArray, List.set_cons_zero, List.set_cons_succ])))
          have A1 := AnsH.on H (bad_A (some ⟨p, 0, none⟩) f t c n hf ht hc)
          rw [decide_eq_false hbad] at A1
          have HBB := Lib.hid hbad
          clear hbad
          go_wp2_with (first | go_skip | ((with_reducible refine AnsH.call (by assumption) H ?_); clear H; intro _ H))
          refine ⟨⟨2, by omega, rfl, rfl, by go_num, fun h => HBB.out, fun h => by omega, H.tail⟩, ?measure1⟩
          case measure1 => simp [intOf]
      · by_cases h2 : k = 2
        · subst h2
          have HBB := Lib.hid (HB.out (by omega))
          by_cases hst : (f : Int) ∉ S.P ∨ (t : Int) ∉ S.P
          · go_wp2_with (first
              | go_skip
              | ((with_reducible show wpList _ _ _ (_ :: _) _ _); (with_reducible apply wpl_loadRH row_chk); (· rfl); (· rfl); (· exact H); (· (repeat (first | (with_reducible exact List.mem_cons_self) | with_reducible apply List.mem_cons_of_mem))); (· (simp only [chkC_sz, Nat.reduceAdd, Nat.reduceLeDiff, Nat.le_refl]; done)); (· with_reducible exact chk_2); (simp only [Act.put, List.setIfInBounds_toArray, List.set_cons_zero, List.set_cons_succ]))
              | ((with_reducible show wpList _ _ _ (_ :: _) _ _); (with_reducible apply wpl_allocRH row_chk); (· rfl); (· exact H); (clear H; intro pc _ H); (simp only [Act.put, List.setIfInBounds_toArray, List.set_cons_zero, List.set_cons_succ]))
              | ((with_reducible show wpList _ _ _ (_ :: _) _ _); (with_reducible apply wpl_storeRH row_chk); (· rfl); (· rfl); (· rfl); (· with_reducible exact chk_cells ..); (· exact H); (· (repeat (first | (with_reducible exact List.mem_cons_self) | with_reducible apply List.mem_cons_of_mem))); (· (simp only [chk0_sz, Nat.reduceAdd, Nat.reduceLeDiff, Nat.le_refl]; done)); (· with_reducible exact chk_splice ..); (· (repeat (first | (with_reducible exact Repl.here) | with_reducible apply Repl.there))); (clear H; intro _ H); (simp only [Act.put, List.setIfInBounds_toArray, List.set_cons_zero, List.set_cons_succ]))
              | ((with_reducible show wpList _ _ _ (_ :: _) _ _); (with_reducible apply wpl_loadCH); (· exact cell_fn); (· rfl); (· rfl); (· exact H); (· (repeat (first | (with_reducible exact List.mem_cons_self) | with_reducible apply List.mem_cons_of_mem))); (· with_reducible exact chk_g0 ..); (simp only [Act.put, List.setIfInBounds_toArray, List.set_cons_zero, List.set_cons_succ]))
              | ((with_reducible show wpList _ _ _ (_ :: _) _ _); (with_reducible apply wpl_loadRH row_pay); (· rfl); (· rfl); (· exact H); (· (repeat (first | (with_reducible exact List.mem_cons_self) | with_reducible apply List.mem_cons_of_mem))); (· (simp only [pay_sz, Nat.reduceAdd, Nat.reduceLeDiff, Nat.le_refl]; done)); (· with_reducible exact pay_all ..); (simp only [Act.put, List.setIfInBounds_toArray, List.set_cons_zero, List.set_cons_succ])))
            have A1 := AnsH.on H (strange_A (p := p) (q := q) (S := S) f t c n hf ht HG.out (by (repeat (first | (with_reducible exact List.mem_cons_self) | with_reducible apply List.mem_cons_of_mem))))
            rw [decide_eq_true hst] at A1
            have HST := Lib.hid hst
            clear hst
            go_wp2_with (first | go_skip | ((with_reducible refine AnsH.call (by assumption) H ?_); clear H; intro _ H))
            clear A1
            refine wp_region_H H (by kernel_rfl) (by kernel_rfl) ?_
            repeat (first | go_big_quiet_skip | ((with_reducible apply wpQ_loadCH); (· exact cell_err); (· rfl); (· rfl); (· (repeat (first | (with_reducible exact List.mem_cons_self) | with_reducible apply List.mem_cons_of_mem))); (· with_reducible exact chk_g1 ..); (simp only [Act.put, List.setIfInBounds_toArray, List.set_cons_zero, List.set_cons_succ])) | go_big_quiet_step (fail))
            refine wpQuiet_nil ?_
            clear H
            intro _ H
            go_wp2_with (go_skip)
            go_ret2
            exact ⟨0, 7, S, rfl, .inr (.inl ⟨HBB.out, HST.out, rfl, rfl, rfl⟩), H.tail.tail.tail⟩
          · go_wp2_with (first
              | go_skip
              | ((with_reducible show wpList _ _ _ (_ :: _) _ _); (with_reducible apply wpl_loadRH row_chk); (· rfl); (· rfl); (· exact H); (· (repeat (first | (with_reducible exact List.mem_cons_self) | with_reducible apply List.mem_cons_of_mem))); (· (simp only [chkC_sz, Nat.reduceAdd, Nat.reduceLeDiff, Nat.le_refl]; done)); (· with_reducible exact chk_2); (simp only [Act.put, List.setIfInBounds_toArray, List.set_cons_zero, List.set_cons_succ]))
              | ((with_reducible show wpList _ _ _ (_ :: _) _ _); (with_reducible apply wpl_allocRH row_chk); (· rfl); (· exact H); (clear H; intro pc _ H); (simp only [Act.put, List.setIfInBounds_toArray, List.set_cons_zero, List.set_cons_succ]))
              | ((with_reducible show wpList _ _ _ (_ :: _) _ _); (with_reducible apply wpl_storeRH row_chk); (· rfl); (· rfl); (· rfl); (· with_reducible exact chk_cells ..); (· exact H); (· (repeat (first | (with_reducible exact List.mem_cons_self) | with_reducible apply List.mem_cons_of_mem))); (· (simp only [chk0_sz, Nat.reduceAdd, Nat.reduceLeDiff, Nat.le_refl]; done)); (· with_reducible exact chk_splice ..); (· (repeat (first | (with_reducible exact Repl.here) | with_reducible apply Repl.there))); (clear H; intro _ H); (simp only [Act.put, List.setIfInBounds_toArray, List.set_cons_zero, List.set_cons_succ]))
              | ((with_reducible show wpList _ _ _ (_ :: _) _ _); (with_reducible apply wpl_loadCH); (· exact cell_fn); (· rfl); (· rfl); (· exact H); (· (repeat (first | (with_reducible exact List.mem_cons_self) | with_reducible apply List.mem_cons_of_mem))); (· with_reducible exact chk_g0 ..); (simp only [Act.put, List.setIfInBounds_toArray, List.set_cons_zero, List.set_cons_succ]))
              | ((with_reducible show wpList _ _ _ (_ :: _) _ _); (with_reducible apply wpl_loadRH row_pay); (· rfl); (· rfl); (· exact H); (· (repeat (first | (with_reducible exact List.mem_cons_self) | with_reducible apply List.mem_cons_of_mem))); (· (simp only [pay_sz, Nat.reduceAdd, Nat.reduceLeDiff, Nat.le_refl]; done)); (· with_reducible exact pay_all ..); (simp only [Act.put, List.setIfInBounds_toArray, List.set_cons_zero, List.set_cons_succ])))
            have A1 := AnsH.on H (strange_A (p := p) (q := q) (S := S) f t c n hf ht HG.out (by (repeat (first | (with_reducible exact List.mem_cons_self) | with_reducible apply List.mem_cons_of_mem))))
            rw [decide_eq_false hst] at A1
            have HST := Lib.hid (show (f : Int) ∈ S.P ∧ (t : Int) ∈ S.P from ⟨Decidable.byContradiction fun h => hst (.inl h), Decidable.byContradiction fun h => hst (.inr h)⟩)
            clear hst
            go_wp2_with (first | go_skip | ((with_reducible refine AnsH.call (by assumption) H ?_); clear H; intro _ H))
            refine ⟨⟨3, by omega, rfl, rfl, by go_num, fun h => HBB.out, fun h => HST.out, H.tail⟩, ?measure2⟩
            case measure2 => simp [intOf]
        · obtain rfl : k = 3 := by omega
          have HBB := Lib.hid (HB.out (by omega))
          have HST := Lib.hid (HS.out (by omega))
          replace H := H.tail.tail
          clear h0 h1 h2 HB HS
          go_wp2_with (go_skip)
          refine (of_H (p := p) (q := q) (S := S) c hc HG.out H (by (repeat (first | (with_reducible exact List.mem_cons_self) | with_reducible apply List.mem_cons_of_mem))) (by (repeat (first | (with_reducible exact List.mem_cons_self) | with_reducible apply List.mem_cons_of_mem)))).mono ?_
          clear H
          rintro e w2 ⟨gg, rfl, H⟩
          go_wp2_with (go_skip)
          refine (routeA_H (p := gg) (capsS S c) f t n hf ht HN.out.2 (capsS_play HG.out c) (by (repeat (first | (with_reducible exact List.mem_cons_self) | with_reducible apply List.mem_cons_of_mem))) H).mono ?_
          clear H
          rintro e w3 ⟨v, Q, got, rfl, hr, H⟩
          have HE := Lib.hid (Pushed.end HG.out hr)
          have HR := Lib.hid hr
          have HQL := Lib.hid (RouteOut.len (capsS_play HG.out c) hr)
          clear hr
          replace H := H.drop (.there .here)
          obtain ⟨qa, qc, rfl, _⟩ := Own.rd (H.ok _ List.mem_cons_self)
          by_cases hlt : got < n
          · go_wp2_with (go_skip)
            go_ret2
            exact ⟨0, 11, S, rfl, .inr (.inr ⟨HBB.out, HST.out.1, HST.out.2, Q, got, HR.out, .inl ⟨hlt, rfl, rfl, rfl⟩⟩), H.tail⟩
          · have HGN := Lib.hid (show got = n by
              have h1 := HE.out.2.2.2.2
              have h2 : 1 ≤ n := by have := HBB.out; unfold badPay at this; omega
              omega)
            generalize hqn : Q.length = qn at *
            have HQN := Lib.hid hqn
            have hq86 := HQL.out
            clear hqn
            go_wp2_with (go_skip)
            have H0 := H
            clear H
            go_loopw [53] (fun i wr => PayP W l p q S c qa qc Q i wr) (fun i _ => qn - (intOf i).toNat)
            case atStart => exact ⟨0, Nat.zero_le _, rfl, by rw [HQN.out]; exact H0⟩
            case round =>
              obtain ⟨j, hj, rfl, H⟩ := hrel.out
              clear H0 hrel
              rw [HQN.out] at hj H
              by_cases hjl : j < qn
              · have hjQ : j < Q.length := by rw [HQN.out]; exact hjl
                have hrow := flwL_row1 hjQ
                have hge : Q[j]? = some Q[j] := List.getElem?_eq_getElem hjQ
                have hfit := HE.out.2.1.at hge
                have hpre := pushLs_all c (Q.take j) S HG.out (HE.out.2.1.take j)
                have hsn : pushLs S c (Q.take (j + 1)) = pushS (pushLs S c (Q.take j)) Q[j].f Q[j].t c Q[j].n := by rw [List.take_add_one, hge]; exact pushLs_snoc c _ _ _
                have hbn := (capsS_play hpre.good c).bnd Q[j].f Q[j].t
                have hcaps := hpre.caps
                generalize Q[j] = x at *
                rw [← hcaps] at hfit
                have HSN := Lib.hid hsn
                have HPG := Lib.hid hpre.good
                generalize pushLs S c (Q.take j) = S1 at *
                obtain ⟨⟨z1, z2, z3, z4⟩, _, _⟩ := hfit
                obtain ⟨xf, xt, xn⟩ := x
                simp only at z1 z2 z3 z4 hrow hbn
                have HZ := Lib.hid (show -9223372036854775808 ≤ xn ∧ xn ≤ 9223372036854775807 by omega)
                obtain ⟨qb, qo, rfl, _⟩ := (H.ownRd (by (repeat (first | (with_reducible exact List.mem_cons_self) | with_reducible apply List.mem_cons_of_mem)) : OwnT 32 3 (.slice qa qn qc) qn (flwL Q) ∈ _)).lt (by omega)
                have HRd := Lib.hid (H.ownRd (by (repeat (first | (with_reducible exact List.mem_cons_self) | with_reducible apply List.mem_cons_of_mem)) : OwnT 32 3 (.slice (some ⟨qb, qo, none⟩) qn qc) qn (flwL Q) ∈ _))
                clear hsn hcaps hbn hge hpre z1 z2 hjQ
                go_wp2_with (first
                  | go_skip
                  | ((with_reducible show wpList _ _ _ (_ :: _) _ _); (with_reducible apply wpl_loadRdR row_flow); (· rfl); (· rfl); (· exact HRd.out); (· rfl); (· exact hrow.1); (· decide); (· exact hrow.2); (simp only [Act.put, List.setIfInBounds_toArray, List.set_cons_zero, List.set_cons_succ]))
                  | ((with_reducible show wpList _ _ _ (_ :: _) _ _); (with_reducible apply wpl_allocRH row_flow); (· rfl); (· exact H); (clear H; intro pf _ H); (simp only [Act.put, List.setIfInBounds_toArray, List.set_cons_zero, List.set_cons_succ]))
                  | ((with_reducible show wpList _ _ _ (_ :: _) _ _); (with_reducible apply wpl_storeRH row_flow); (· rfl); (· rfl); (· rfl); (· with_reducible exact flow_cells ..); (· exact H); (· (repeat (first | (with_reducible exact List.mem_cons_self) | with_reducible apply List.mem_cons_of_mem))); (· (simp only [flow_sz, Nat.reduceAdd, Nat.reduceLeDiff, Nat.le_refl]; done)); (· with_reducible exact flow_splice ..); (· (repeat (first | (with_reducible exact Repl.here) | with_reducible apply Repl.there))); (clear H; intro _ H); (simp only [Act.put, List.setIfInBounds_toArray, List.set_cons_zero, List.set_cons_succ]))
                  | ((with_reducible show wpList _ _ _ (_ :: _) _ _); (with_reducible apply wpl_loadCH); (· first | exact cell_party | exact cell_i64); (· rfl); (· rfl); (· exact H); (· (repeat (first | (with_reducible exact List.mem_cons_self) | with_reducible apply List.mem_cons_of_mem))); (· (with_reducible first | exact flow_g0 .. | exact flow_g1 .. | exact flow_g2 ..)); (simp only [Act.put, List.setIfInBounds_toArray, List.set_cons_zero, List.set_cons_succ])))
                refine (lpush_H (p := p) (q := q) (S := S1) xf xt c xn (by omega) (by omega) hc HZ.out HPG.out (H.top2 (.there (.there .here)) (.there (.there .here)))).mono ?_
                clear H
                rintro e w5 ⟨rfl, H⟩
                go_wp2_with (go_skip)
                refine ⟨⟨j + 1, by rw [HQN.out]; omega, by go_num, ?_⟩, ?measure3⟩
                case measure3 => simp [intOf]; omega
                rw [HSN.out, push_P, HQN.out]
                exact (H.drop (.there (.there .here))).pull (.there (.there .here))
              · obtain rfl : j = qn := by omega
                have eQ : Q.take j = Q := List.take_of_length_le (by rw [HQN.out]; exact Nat.le_refl _)
                rw [eQ] at H
                go_wp2_with (go_skip)
                go_ret2
                exact ⟨(j : Int), 0, pushLs S c Q, rfl, .inr (.inr ⟨HBB.out, HST.out.1, HST.out.2, Q, got, HR.out, .inr ⟨HGN.out, rfl, by rw [HQN.out], rfl⟩⟩), H.tail⟩
theorem payMost_H (f t c : Nat) (hf : f ≤ 255) (ht : t ≤ 255) (hc : c ≤ 255) (G : S.Good) (h1 : LdC p S.P (some q) ∈ l) (h2 : LdM q S.L ∈ l) (H : Heap W l w) :
    Calls Try.prog 22 #[.pointer (some ⟨p, 0, none⟩), .int .u8 (f : Int), .int .u8 (t : Int), .int .u8 (c : Int)] w fun e w' => ∃ P got, e = .returned (.int .i64 got) ∧ RouteOut f t (capsS S c) 9223372036854775807 P got ∧ Heap W l w' := by
  have HG := Lib.hid G
  clear G
  go_enter Try.func22, Try.ntmps22
  go_wp2_with (go_skip)
  refine (of_H (p := p) (q := q) (S := S) c hc HG.out H h1 h2).mono ?_
  clear H
  rintro e w2 ⟨gg, rfl, H⟩
  go_wp2_with (go_skip)
  refine (most_H (p := gg) (capsS S c) f t hf ht (capsS_play HG.out c) (by (repeat (first | (with_reducible exact List.mem_cons_self) | with_reducible apply List.mem_cons_of_mem))) H).mono ?_
  clear H
  rintro e w3 ⟨P, got, rfl, hr, H⟩
  have HR := Lib.hid hr
  clear hr
  go_wp2_with (go_skip)
  go_ret
  exact ⟨P, got, rfl, HR.out, H.tail⟩
end
end Go.Proofs.Ytgobnamhdkbbeaa

/- ledgers.Ledger: of no ledger, and of one that no call made. -/
namespace Go.Proofs.Ytgobnamhdkbbeaa
open Go.RowKit
set_option linter.unusedSimpArgs false
set_option linter.unusedVariables false
/-- There is no ledger there, whatever else lies there. -/
def VoidL (W : World) (l : List Thing) (v : Value) : Prop := ∀ l', (∀ t ∈ l, t ∈ l') → AnsH W l' 55 #[v] (.bool false)
theorem VoidL.now {W : World} {l : List Thing} {v : Value} (h : VoidL W l v) : AnsH W l 55 #[v] (.bool false) := h l fun _ h => h
theorem VoidL.nil (W : World) (l : List Thing) : VoidL W l (.pointer none) := fun _ _ => lthere_nil.toH
theorem VoidL.zero {W : World} {l : List Thing} {p : Nat} {P : List Int} (h : LdC p P none ∈ l) : VoidL W l (.pointer (some ⟨p, 0, none⟩)) := fun _ hl => lthere_H (m := none) (hl _ h)
section
variable {w W : World} {l : List Thing} {v : Value}
set_option maxRecDepth 100000
set_option maxHeartbeats 1000000
theorem lopen_V (a : Nat) (hT : VoidL W l v) : AnsH W l 41 #[v, .int .u8 (a : Int)] (.int .i64 2) := by
  intro w H
  have hT0 := hT.now
  go_enter Try.func41, Try.ntmps41
  go_wp2_with (first | go_skip | ((with_reducible refine AnsH.call (by assumption) H ?_); clear H; intro _ H))
  go_ret
  exact ⟨rfl, H⟩
theorem ltrust_V (f t c : Nat) (n : Int) (hT : VoidL W l v) : AnsH W l 42 #[v, .int .u8 (f : Int), .int .u8 (t : Int), .int .u8 (c : Int), .int .i64 n] (.int .i64 2) := by
  intro w H
  have hT0 := hT.now
  go_enter Try.func42, Try.ntmps42
  go_wp2_with (first | go_skip | ((with_reducible show wpList _ _ _ (_ :: _) _ _); (with_reducible apply wpl_allocRH row_ends); (· rfl); (· exact H); (clear H; intro pe _ H); (simp only [Act.put, List.setIfInBounds_toArray, List.set_cons_zero, List.set_cons_succ])) | ((with_reducible show wpList _ _ _ (_ :: _) _ _); (with_reducible apply wpl_storeRH row_ends); (· rfl); (· rfl); (· rfl); (· with_reducible exact ends_cells ..); (· exact H); (· (repeat (first | (with_reducible exact List.mem_cons_self) | with_reducible apply List.mem_cons_of_mem))); (· (simp only [ends_sz, Nat.reduceAdd, Nat.reduceLeDiff, Nat.le_refl]; done)); (· with_reducible exact ends_splice ..); (· (repeat (first | (with_reducible exact Repl.here) | with_reducible apply Repl.there))); (clear H; intro _ H); (simp only [Act.put, List.setIfInBounds_toArray, List.set_cons_zero, List.set_cons_succ])))
  refine (hT (Cel pe (ends (f : Int) (t : Int) (c : Int)) 105 :: l) (fun t ht => List.mem_cons_of_mem _ ht) _ H).mono ?_
  clear H
  rintro _ w1 ⟨rfl, H⟩
  go_wp2_with (go_skip)
  go_ret
  exact ⟨rfl, H.tail⟩
theorem lpush_V (f t c : Nat) (n : Int) (hT : VoidL W l v) : AnsH W l 18 #[v, .int .u8 (f : Int), .int .u8 (t : Int), .int .u8 (c : Int), .int .i64 n] (.int .i64 2) := by
  intro w H
  have hT0 := hT.now
  go_enter Try.func18, Try.ntmps18
  go_wp2_with (first | go_skip | ((with_reducible refine AnsH.call (by assumption) H ?_); clear H; intro _ H))
  go_ret
  exact ⟨rfl, H⟩
theorem lhas_V (a : Nat) (hT : VoidL W l v) : AnsH W l 33 #[v, .int .u8 (a : Int)] (.bool false) := by
  intro w H
  have hT0 := hT.now
  go_enter Try.func33, Try.ntmps33
  go_wp2_with (first | go_skip | ((with_reducible refine AnsH.call (by assumption) H ?_); clear H; intro _ H))
  go_ret
  exact ⟨rfl, H⟩
theorem lroom_V (f t c : Nat) (hT : VoidL W l v) : AnsH W l 16 #[v, .int .u8 (f : Int), .int .u8 (t : Int), .int .u8 (c : Int)] (.int .i64 0) := by
  intro w H
  have hT0 := hT.now
  go_enter Try.func16, Try.ntmps16
  go_wp2_with (first | go_skip | ((with_reducible refine AnsH.call (by assumption) H ?_); clear H; intro _ H))
  go_ret
  exact ⟨rfl, H⟩
theorem lparties_V  (hT : VoidL W l v) : AnsH W l 52 #[v] (.slice none 0 0) := by
  intro w H
  have hT0 := hT.now
  go_enter Try.func52, Try.ntmps52
  go_wp2_with (first | go_skip | ((with_reducible refine AnsH.call (by assumption) H ?_); clear H; intro _ H))
  go_ret
  exact ⟨rfl, H⟩
theorem llines_V  (hT : VoidL W l v) : AnsH W l 32 #[v] (.slice none 0 0) := by
  intro w H
  have hT0 := hT.now
  go_enter Try.func32, Try.ntmps32
  go_wp2_with (first | go_skip | ((with_reducible refine AnsH.call (by assumption) H ?_); clear H; intro _ H))
  go_ret
  exact ⟨rfl, H⟩
theorem lcopy_V  (hT : VoidL W l v) : AnsH W l 30 #[v] (.pointer none) := by
  intro w H
  have hT0 := hT.now
  go_enter Try.func30, Try.ntmps30
  go_wp2_with (first | go_skip | ((with_reducible refine AnsH.call (by assumption) H ?_); clear H; intro _ H))
  go_ret
  exact ⟨rfl, H⟩
theorem lline_V (f t c : Nat) (hT : VoidL W l v) : AnsH W l 43 #[v, .int .u8 (f : Int), .int .u8 (t : Int), .int .u8 (c : Int)] (.tuple #[.agg (line 0 0 0 0 0), .bool false]) := by
  intro w H
  have hT0 := hT.now
  go_enter Try.func43, Try.ntmps43
  go_wp2_with (first | go_skip | ((with_reducible show wpList _ _ _ (_ :: _) _ _); (with_reducible apply wpl_allocRH row_line); (· rfl); (· exact H); (clear H; intro pe _ H); (simp only [Act.put, List.setIfInBounds_toArray, List.set_cons_zero, List.set_cons_succ])))
  refine (hT (Cel pe (line 0 0 0 0 0) 84 :: l) (fun t ht => List.mem_cons_of_mem _ ht) _ H).mono ?_
  clear H
  rintro _ w1 ⟨rfl, H⟩
  go_wp2_with (first | go_skip | ((with_reducible show wpList _ _ _ (_ :: _) _ _); (with_reducible apply wpl_storeRH row_line); (· rfl); (· rfl); (· rfl); (· with_reducible exact line_cells ..); (· exact H); (· (repeat (first | (with_reducible exact List.mem_cons_self) | with_reducible apply List.mem_cons_of_mem))); (· (simp only [line_sz, Nat.reduceAdd, Nat.reduceLeDiff, Nat.le_refl]; done)); (· with_reducible exact line_splice ..); (· (repeat (first | (with_reducible exact Repl.here) | with_reducible apply Repl.there))); (clear H; intro _ H); (simp only [Act.put, List.setIfInBounds_toArray, List.set_cons_zero, List.set_cons_succ])))
  exact ret_row2H row_line rfl rfl rfl H (by (repeat (first | (with_reducible exact List.mem_cons_self) | with_reducible apply List.mem_cons_of_mem))) rfl rfl ⟨rfl, H.tail⟩
theorem lforg_V (f t c : Nat) (n : Int) (hT : VoidL W l v) : AnsH W l 51 #[v, .int .u8 (f : Int), .int .u8 (t : Int), .int .u8 (c : Int), .int .i64 n] (.int .i64 2) := by
  intro w H
  have hT0 := hT.now
  have hL := lline_V f t c hT
  go_enter Try.func51, Try.ntmps51
  go_wp2_with (first | go_skip | ((with_reducible refine AnsH.call (by assumption) H ?_); clear H; intro _ H) | ((with_reducible show wpList _ _ _ (_ :: _) _ _); (with_reducible apply wpl_allocRH row_line); (· rfl); (· exact H); (clear H; intro pe _ H); (simp only [Act.put, List.setIfInBounds_toArray, List.set_cons_zero, List.set_cons_succ])) | ((with_reducible show wpList _ _ _ (_ :: _) _ _); (with_reducible apply wpl_storeRH row_line); (· rfl); (· rfl); (· rfl); (· with_reducible exact line_cells ..); (· exact H); (· (repeat (first | (with_reducible exact List.mem_cons_self) | with_reducible apply List.mem_cons_of_mem))); (· (simp only [line_sz, Nat.reduceAdd, Nat.reduceLeDiff, Nat.le_refl]; done)); (· with_reducible exact line_splice ..); (· (repeat (first | (with_reducible exact Repl.here) | with_reducible apply Repl.there))); (clear H; intro _ H); (simp only [Act.put, List.setIfInBounds_toArray, List.set_cons_zero, List.set_cons_succ])))
  refine (hT (Cel pe (line 0 0 0 0 0) 84 :: l) (fun t ht => List.mem_cons_of_mem _ ht) _ H).mono ?_
  clear H
  rintro _ w1 ⟨rfl, H⟩
  go_wp2_with (go_skip)
  go_ret
  exact ⟨rfl, H.tail⟩
theorem lpos_V (a c : Nat) (hT : VoidL W l v) : AnsH W l 76 #[v, .int .u8 (a : Int), .int .u8 (c : Int)] (.int .i64 0) := by
  intro w H
  have hT0 := hT.now
  have hL := llines_V hT
  go_enter Try.func76, Try.ntmps76
  go_wp2_with (first | go_skip | ((with_reducible refine AnsH.call (by assumption) H ?_); clear H; intro _ H))
  refine wp_loop_once ?_
  go_wp2_with (go_skip)
  go_ret
  exact ⟨rfl, H⟩
theorem ltot_V (c : Nat) (hT : VoidL W l v) : AnsH W l 45 #[v, .int .u8 (c : Int)] (.int .i64 0) := by
  intro w H
  have hT0 := hT.now
  have hL := llines_V hT
  go_enter Try.func45, Try.ntmps45
  go_wp2_with (first | go_skip | ((with_reducible refine AnsH.call (by assumption) H ?_); clear H; intro _ H))
  refine wp_loop_once ?_
  go_wp2_with (go_skip)
  go_ret
  exact ⟨rfl, H⟩
end
end Go.Proofs.Ytgobnamhdkbbeaa

/- payments, of a ledger that is not there. -/
namespace Go.Proofs.Ytgobnamhdkbbeaa
open Go.RowKit
set_option linter.unusedSimpArgs false
set_option linter.unusedVariables false
set_option maxRecDepth 100000
theorem VoidL.more {W : World} {l : List Thing} {v : Value} (h : VoidL W l v) (x : Thing) : VoidL W (x :: l) v := fun l' hl => h l' fun t ht => hl t (List.mem_cons_of_mem _ ht)
theorem zero_play : PlayC zeroC := ⟨GoodC.zero, fun _ => rfl, fun _ _ => by show (0 : Int) + 0 ≤ _; omega⟩
theorem route_zero {f t : Nat} {n got : Int} {P : List Flw} (h : RouteOut f t zeroC n P got) : got = 0 := by
  obtain ⟨k, c, m, hT, hF, rfl⟩ := h
  cases k with
  | zero =>
    obtain ⟨_, rfl, _⟩ := Tr.det 0 hT .nil
    omega
  | succ k =>
    obtain ⟨c1, n1, P1, L, h1, h2, h3, h4⟩ := hT.pre 0 (by omega)
    obtain ⟨rfl, _, _⟩ := Tr.det 0 h1 .nil
    exact absurd (short_zero h3) h4
section
variable {W w : World} {l : List Thing} {v : Option Addr}
set_option maxHeartbeats 4000000
theorem absent_V (f t c n : Int) (hT : VoidL W l (.pointer v)) : AnsH W l 91 #[.agg (payC v f t c n)] (.bool true) := by
  intro w H
  have CP := Lib.hid (fun (x : Thing) => lcopy_V (hT.more x))
  clear hT
  go_enter Try.func91, Try.ntmps91
  go_wp2_with (first | go_skip | ((with_reducible show wpList _ _ _ (_ :: _) _ _); (with_reducible apply wpl_boxRH); (· rfl); (· rfl); (· exact H); (clear H; intro px _ H); (simp only [Act.put, List.setIfInBounds_toArray, List.set_cons_zero, List.set_cons_succ])) | ((with_reducible show wpList _ _ _ (_ :: _) _ _); (with_reducible apply wpl_loadCH); (· exact cell_ledp); (· rfl); (· rfl); (· exact H); (· (repeat (first | (with_reducible exact List.mem_cons_self) | with_reducible apply List.mem_cons_of_mem))); (· exact pay_g0 ..); (simp only [Act.put, List.setIfInBounds_toArray, List.set_cons_zero, List.set_cons_succ])))
  have B1 := AnsH.on H (CP.out _)
  go_wp2_with (first | go_skip | ((with_reducible refine AnsH.call (by assumption) H ?_); clear H; intro _ H))
  go_ret
  exact ⟨rfl, H.tail⟩
theorem pay_V (f t c : Nat) (n : Int) (hT : VoidL W l (.pointer v)) : AnsH W l 21 #[.pointer v, .int .u8 (f : Int), .int .u8 (t : Int), .int .u8 (c : Int), .int .i64 n] (.tuple #[.int .i64 0, .int .i64 2]) := by
  intro w H
  have HT := Lib.hid hT
  clear hT
  go_enter Try.func21, Try.ntmps21
  go_wp2_with (first
    | go_skip
    | ((with_reducible show wpList _ _ _ (_ :: _) _ _); (with_reducible apply wpl_allocRH row_pay); (· rfl); (· exact H); (clear H; intro px _ H); (simp only [Act.put, List.setIfInBounds_toArray, List.set_cons_zero, List.set_cons_succ]))
    | ((with_reducible show wpList _ _ _ (_ :: _) _ _); (with_reducible apply wpl_storeRH row_pay); (· rfl); (· rfl); (· rfl); (· with_reducible exact pay_cells ..); (· exact H); (· (repeat (first | (with_reducible exact List.mem_cons_self) | with_reducible apply List.mem_cons_of_mem))); (· (simp only [pay_sz, Nat.reduceAdd, Nat.reduceLeDiff, Nat.le_refl]; done)); (· with_reducible exact pay_splice ..); (· (repeat (first | (with_reducible exact Repl.here) | with_reducible apply Repl.there))); (clear H; intro _ H); (simp only [Act.put, List.setIfInBounds_toArray, List.set_cons_zero, List.set_cons_succ])))
  refine (checks_H H).mono ?_
  clear H
  rintro e w1 ⟨g, rfl, H⟩
  go_wp2_with (go_skip)
  refine wp_loop_once ?_
  go_wp2_with (first
    | go_skip
    | ((with_reducible show wpList _ _ _ (_ :: _) _ _); (with_reducible apply wpl_loadRH row_chk); (· rfl); (· rfl); (· exact H); (· (repeat (first | (with_reducible exact List.mem_cons_self) | with_reducible apply List.mem_cons_of_mem))); (· (simp only [chkC_sz, Nat.reduceAdd, Nat.reduceLeDiff, Nat.le_refl]; done)); (· with_reducible exact chk_0); (simp only [Act.put, List.setIfInBounds_toArray, List.set_cons_zero, List.set_cons_succ]))
    | ((with_reducible show wpList _ _ _ (_ :: _) _ _); (with_reducible apply wpl_allocRH row_chk); (· rfl); (· exact H); (clear H; intro pc _ H); (simp only [Act.put, List.setIfInBounds_toArray, List.set_cons_zero, List.set_cons_succ]))
    | ((with_reducible show wpList _ _ _ (_ :: _) _ _); (with_reducible apply wpl_storeRH row_chk); (· rfl); (· rfl); (· rfl); (· with_reducible exact chk_cells ..); (· exact H); (· (repeat (first | (with_reducible exact List.mem_cons_self) | with_reducible apply List.mem_cons_of_mem))); (· (simp only [chk0_sz, Nat.reduceAdd, Nat.reduceLeDiff, Nat.le_refl]; done)); (· with_reducible exact chk_splice ..); (· (repeat (first | (with_reducible exact Repl.here) | with_reducible apply Repl.there))); (clear H; intro _ H); (simp only [Act.put, List.setIfInBounds_toArray, List.set_cons_zero, List.set_cons_succ]))
    | ((with_reducible show wpList _ _ _ (_ :: _) _ _); (with_reducible apply wpl_loadCH); (· exact cell_fn); (· rfl); (· rfl); (· exact H); (· (repeat (first | (with_reducible exact List.mem_cons_self) | with_reducible apply List.mem_cons_of_mem))); (· with_reducible exact chk_g0 ..); (simp only [Act.put, List.setIfInBounds_toArray, List.set_cons_zero, List.set_cons_succ]))
    | ((with_reducible show wpList _ _ _ (_ :: _) _ _); (with_reducible apply wpl_loadRH row_pay); (· rfl); (· rfl); (· exact H); (· (repeat (first | (with_reducible exact List.mem_cons_self) | with_reducible apply List.mem_cons_of_mem))); (· (simp only [pay_sz, Nat.reduceAdd, Nat.reduceLeDiff, Nat.le_refl]; done)); (· with_reducible exact pay_all ..); (simp only [Act.put, List.setIfInBounds_toArray, List.set_cons_zero, List.set_cons_succ])))
  have A1 := AnsH.on H (absent_V (v := v) (f : Int) (t : Int) (c : Int) n (((HT.out.more _).more _).more _))
  go_wp2_with (first | go_skip | ((with_reducible refine AnsH.call (by assumption) H ?_); clear H; intro _ H))
  clear A1
  refine wp_region_H H (by kernel_rfl) (by kernel_rfl) ?_
  repeat (first | go_big_quiet_skip | ((with_reducible apply wpQ_loadCH); (· exact cell_err); (· rfl); (· rfl); (· (repeat (first | (with_reducible exact List.mem_cons_self) | with_reducible apply List.mem_cons_of_mem))); (· with_reducible exact chk_g1 ..); (simp only [Act.put, List.setIfInBounds_toArray, List.set_cons_zero, List.set_cons_succ])) | go_big_quiet_step (fail))
  refine wpQuiet_nil ?_
  clear H
  intro _ H
  go_wp2_with (go_skip)
  go_ret2
  exact ⟨rfl, H.tail.tail.tail⟩
theorem of_V (c : Nat) (hT : VoidL W l (.pointer v)) (H : Heap W l w) : Calls Try.prog 14 #[.pointer v, .int .u8 (c : Int)] w fun e w' => ∃ g, e = .returned (.pointer (some ⟨g, 0, none⟩)) ∧ Heap W (Gr g zeroC :: l) w' := by
  have HT := Lib.hid hT
  clear hT
  go_enter Try.func14, Try.ntmps14
  go_wp2_with (first
    | go_skip
    | ((with_reducible show wpList _ _ _ (_ :: _) _ _); (with_reducible apply wpl_boxRH); (· rfl); (· rfl); (· exact H); (clear H; intro pg _ H); (simp only [Act.put, List.setIfInBounds_toArray, List.set_cons_zero, List.set_cons_succ])))
  rw [zero_gr] at H
  have A1 := AnsH.on H (lparties_V (HT.out.more _))
  go_wp2_with (first | go_skip | ((with_reducible refine AnsH.call (by assumption) H ?_); clear H; intro _ H))
  refine wp_loop_once ?_
  go_wp2_with (go_skip)
  go_ret
  exact ⟨pg, rfl, H⟩
theorem payMost_V (f t c : Nat) (hf : f ≤ 255) (ht : t ≤ 255) (hT : VoidL W l (.pointer v)) : AnsH W l 22 #[.pointer v, .int .u8 (f : Int), .int .u8 (t : Int), .int .u8 (c : Int)] (.int .i64 0) := by
  intro w H
  have HT := Lib.hid hT
  clear hT
  go_enter Try.func22, Try.ntmps22
  go_wp2_with (go_skip)
  refine (of_V c HT.out H).mono ?_
  clear H
  rintro e w2 ⟨gg, rfl, H⟩
  go_wp2_with (go_skip)
  refine (most_H (p := gg) zeroC f t hf ht zero_play (by (repeat (first | (with_reducible exact List.mem_cons_self) | with_reducible apply List.mem_cons_of_mem))) H).mono ?_
  clear H
  rintro e w3 ⟨P, got, rfl, hr, H⟩
  obtain rfl := route_zero hr
  clear hr
  go_wp2_with (go_skip)
  go_ret
  exact ⟨rfl, H.tail⟩
end
end Go.Proofs.Ytgobnamhdkbbeaa

/- Shortest ways, checked by a reckoning. -/
namespace Go.Proofs.Ytgobnamhdkbbeaa
open Go.RowKit
set_option linter.unusedSimpArgs false
set_option linter.unusedVariables false
def tabD (l : List Nat) (p : Nat) : Nat := l.getD p 17
def distB (c : Caps) (t : Nat) (l : List Nat) : Bool :=
  (l.length == 17) && (tabD l t == 0) && ((List.range 17).all fun p => decide (tabD l p ≤ 17) && (decide (tabD l p = 17) || (decide (1 ≤ p) && decide (tabD l p ≤ 15)))
    && ((List.range 17).all fun q => !edge c p q || decide (tabD l p ≤ tabD l q + 1)) && (decide (tabD l p = 17) || decide (p = t) || ((List.range 17).any fun q => edge c p q && decide (tabD l q + 1 = tabD l p))))
theorem edge_rng {c : Caps} {p q : Nat} (h : edge c p q = true) : p < 17 ∧ q < 17 := by
  unfold edge capOf at h
  split at h
  · rename_i hm
    have h1 := mayP_true hm.1
    have h2 := mayP_true hm.2
    omega
  · simp at h
theorem tabD_far {l : List Nat} (hl : l.length = 17) {p : Nat} (h : 17 ≤ p) : tabD l p = 17 := by
  unfold tabD
  rw [List.getD_eq_getElem?_getD, List.getElem?_eq_none (by omega)]
  rfl
theorem distB_spec {c : Caps} {t : Nat} {l : List Nat} (h : distB c t l = true) : IsDist (edge c) t (tabD l) := by
  unfold distB at h
  simp only [Bool.and_eq_true, beq_iff_eq, List.all_eq_true, List.mem_range, decide_eq_true_eq, Bool.or_eq_true, List.any_eq_true, Bool.not_eq_true'] at h
  obtain ⟨⟨hl, h0⟩, h⟩ := h
  refine ⟨h0, fun p => ?_, fun p hp => ?_, fun p q he => ?_, fun p hp hne => ?_⟩
  · by_cases e : p < 17
    · exact (h p e).1.1.1
    · rw [tabD_far hl (by omega)]; omega
  · have e : p < 17 := by
      apply Classical.byContradiction
      intro hn
      rw [tabD_far hl (by omega)] at hp
      omega
    rcases (h p e).1.1.2 with h1 | h1
    · omega
    · exact ⟨h1.1, by omega, h1.2⟩
  · have hr := edge_rng he
    rcases (h p hr.1).1.2 q hr.2 with h1 | h1
    · rw [he] at h1; cases h1
    · exact h1
  · have e : p < 17 := by
      apply Classical.byContradiction
      intro hn
      rw [tabD_far hl (by omega)] at hp
      omega
    rcases (h p e).2 with (h1 | h1) | ⟨q, hq, h1⟩
    · omega
    · exact absurd h1 hne
    · exact ⟨q, h1.1, h1.2⟩
def stepsB (c : Caps) (d : Nat → Nat) : List Nat → Bool
  | x :: y :: L => (decide (1 ≤ y) && decide (y ≤ 16) && decide (d y + 1 = d x) && edge c x y && ((List.range y).all fun q => decide (q = 0) || !(decide (d q + 1 = d x) && edge c x q))) && stepsB c d (y :: L)
  | _ => true
theorem stepsB_spec {c : Caps} {d : Nat → Nat} : ∀ {L : List Nat}, stepsB c d L = true → Steps (edge c) d L
  | [], _, i, x, y, h1, _ => by simp at h1
  | [a], _, i, x, y, h1, h2 => by simp at h2
  | a :: b :: L, h, i, x, y, h1, h2 => by
    unfold stepsB at h
    rw [Bool.and_eq_true] at h
    cases i with
    | zero =>
      simp at h1 h2
      subst h1 h2
      have h3 := h.1
      simp only [Bool.and_eq_true, decide_eq_true_eq, List.all_eq_true, List.mem_range, Bool.or_eq_true, Bool.not_eq_true'] at h3
      obtain ⟨⟨⟨⟨h4, h5⟩, h6⟩, h7⟩, h8⟩ := h3
      refine ⟨h4, h5, ⟨h6, h7⟩, fun q hq hlt hg => ?_⟩
      rcases h8 q hlt with h9 | h9
      · omega
      · rw [decide_eq_true hg.1, hg.2] at h9; cases h9
    | succ i => exact stepsB_spec h.2 i x y (by simpa using h1) (by simpa using h2)
def shortB (c : Caps) (f t : Nat) (l L : List Nat) : Bool := distB c t l && mayP f && mayP t && decide (f ≠ t) && decide (tabD l f < 17) && decide (L[0]? = some f) && decide (L[L.length - 1]? = some t) && decide (L.length = tabD l f + 1) && stepsB c (tabD l) L
theorem shortB_spec {c : Caps} {f t : Nat} {l L : List Nat} (h : shortB c f t l L = true) : IsShort c f t L ∧ L ≠ [] := by
  unfold shortB at h
  simp only [Bool.and_eq_true, decide_eq_true_eq] at h
  obtain ⟨⟨⟨⟨⟨⟨⟨⟨h1, h2⟩, h3⟩, h4⟩, h5⟩, h6⟩, h7⟩, h8⟩, h9⟩ := h
  refine ⟨.inr ⟨h2, h3, h4, tabD l, distB_spec h1, h5, h6, h7, h8, stepsB_spec h9⟩, fun e => ?_⟩
  subst e
  simp at h8
def farB (c : Caps) (f t : Nat) (l : List Nat) : Bool := distB c t l && decide (tabD l f = 17)
theorem farB_spec {c : Caps} {f t : Nat} {l : List Nat} (h : farB c f t l = true) : IsShort c f t [] := by
  unfold farB at h
  simp only [Bool.and_eq_true, decide_eq_true_eq] at h
  exact .inl ⟨rfl, .inr (.inr (.inr ⟨tabD l, distB_spec h.1, h.2⟩))⟩
end Go.Proofs.Ytgobnamhdkbbeaa

/- The chapter's example of payments, reckoned (plain). -/
namespace Go.Proofs.Ytgobnamhdkbbeaa
set_option linter.unusedVariables false
def p9a : Lgr := openS (openS (openS Lgr.new ((1 : Nat) : Int)) ((2 : Nat) : Int)) ((3 : Nat) : Int)
def p9S : Lgr := trustS (trustS p9a ((2 : Nat) : Int) ((1 : Nat) : Int) ((1 : Nat) : Int) 10) ((3 : Nat) : Int) ((2 : Nat) : Int) ((1 : Nat) : Int) 4
theorem p9a_good : p9a.Good := ((Lgr.new_good.open _).open _).open _
theorem p9S_good : p9S.Good := (p9a_good.trust _ _ _ _).trust _ _ _ _
def p9C : Caps := capsS p9S ((1 : Nat) : Int)
def p9Q : List Flw := [⟨1, 2, 4⟩, ⟨2, 3, 4⟩]
def p9R : List Flw := [⟨3, 2, 4⟩, ⟨2, 1, 4⟩]
def p9T : Lgr := pushLs p9S ((1 : Nat) : Int) p9Q
def p9U : Lgr := pushLs p9T ((1 : Nat) : Int) p9R
def p9D : Caps := capsS p9T ((1 : Nat) : Int)
def p9l0 : List Nat := [17, 2, 1, 0, 17, 17, 17, 17, 17, 17, 17, 17, 17, 17, 17, 17, 17]
def p9l1 : List Nat := [17, 17, 17, 0, 17, 17, 17, 17, 17, 17, 17, 17, 17, 17, 17, 17, 17]
def p9l2 : List Nat := [17, 0, 1, 2, 17, 17, 17, 17, 17, 17, 17, 17, 17, 17, 17, 17, 17]
theorem p9s0 : IsShort p9C 1 3 [1, 2, 3] ∧ [1, 2, 3] ≠ [] := shortB_spec (c := p9C) (f := 1) (t := 3) (l := p9l0) (L := [1, 2, 3]) (by decide +kernel)
theorem p9s1 : IsShort (psW p9C [1, 2, 3] 4) 1 3 [] := farB_spec (c := psW p9C [1, 2, 3] 4) (f := 1) (t := 3) (l := p9l1) (by decide +kernel)
theorem p9s2 : IsShort p9D 3 1 [3, 2, 1] ∧ [3, 2, 1] ≠ [] := shortB_spec (c := p9D) (f := 3) (t := 1) (l := p9l2) (L := [3, 2, 1]) (by decide +kernel)
theorem p9c12 : p9C 1 2 = 10 := by decide +kernel
theorem p9c23 : p9C 2 3 = 4 := by decide +kernel
theorem p9d32 : p9D 3 2 = 4 := by decide +kernel
theorem p9d21 : p9D 2 1 = 4 := by decide +kernel
theorem p9_route (n : Int) (h : 4 ≤ n) : RouteOut 1 3 p9C n p9Q 4 := by
  have m1 : mnW p9C [1, 2, 3] n = 4 := by
    show min (min n (p9C 1 2)) (p9C 2 3) = 4
    rw [p9c12, p9c23]
    omega
  have t1 := Tr.snoc (Tr.nil (f := 1) (t := 3) (c0 := p9C) (n0 := n)) (by omega) p9s0.1 p9s0.2
  rw [m1] at t1
  exact ⟨1, _, n - 4, t1, .inr p9s1, by omega⟩
theorem p9_back : RouteOut 3 1 p9D 4 p9R 4 := by
  have m1 : mnW p9D [3, 2, 1] 4 = 4 := by
    show min (min 4 (p9D 3 2)) (p9D 2 1) = 4
    rw [p9d32, p9d21]
    rfl
  have t1 := Tr.snoc (Tr.nil (f := 3) (t := 1) (c0 := p9D) (n0 := 4)) (by omega) p9s2.1 p9s2.2
  rw [m1] at t1
  exact ⟨1, _, 4 - 4, t1, .inl (by omega), by decide⟩
theorem p9_in : ((1 : Nat) : Int) ∈ p9S.P ∧ ((3 : Nat) : Int) ∈ p9S.P ∧ ((1 : Nat) : Int) ∈ p9T.P ∧ ((3 : Nat) : Int) ∈ p9T.P ∧ ((9 : Nat) : Int) ∉ p9U.P := by decide +kernel
theorem p9_no : PayOut p9S 1 3 1 5 0 11 p9S := .inr (.inr ⟨by decide, p9_in.1, p9_in.2.1, p9Q, 4, p9_route 5 (by omega), .inl ⟨by omega, rfl, rfl, rfl⟩⟩)
theorem p9_yes : PayOut p9S 1 3 1 4 2 0 p9T := .inr (.inr ⟨by decide, p9_in.1, p9_in.2.1, p9Q, 4, p9_route 4 (by omega), .inr ⟨rfl, rfl, rfl, rfl⟩⟩)
theorem p9_rev : PayOut p9T 3 1 1 4 2 0 p9U := .inr (.inr ⟨by decide, p9_in.2.2.2.1, p9_in.2.2.1, p9R, 4, p9_back, .inr ⟨rfl, rfl, rfl, rfl⟩⟩)
theorem p9_bad : PayOut p9U 1 1 1 4 0 1 p9U := .inl ⟨by decide, rfl, rfl, rfl⟩
theorem p9_none : PayOut p9U 1 9 1 4 0 7 p9U := .inr (.inl ⟨by decide, .inr p9_in.2.2.2.2, rfl, rfl, rfl⟩)
theorem p9T_good : p9T.Good := p9_yes.good p9S_good
theorem p9U_good : p9U.Good := p9_rev.good p9T_good
end Go.Proofs.Ytgobnamhdkbbeaa

/- ledgers.Ledger: each act, with the ledger's block and its map. -/
namespace Go.Proofs.Ytgobnamhdkbbeaa
open Go.RowKit
set_option linter.unusedVariables false
section
variable {W w : World} {l : List Thing} {p q : Nat} {S : Lgr}
theorem lopen2_H (a : Nat) (ha : a ≤ 255) (H : Heap W (LdC p S.P (some q) :: LdM q S.L :: l) w) : Calls Try.prog 41 #[.pointer (some ⟨p, 0, none⟩), .int .u8 (a : Int)] w fun e w' => e = .returned (.int .i64 (openE S (a : Int))) ∧ Heap W (LdC p (openS S (a : Int)).P (some q) :: LdM q (openS S (a : Int)).L :: l) w' := by
  rw [open_L]
  exact lopen_H a ha H
theorem ltrust2_H (f t c : Nat) (n : Int) (hf : f ≤ 255) (ht : t ≤ 255) (hc : c ≤ 255) (G : S.Good) (H : Heap W (LdC p S.P (some q) :: LdM q S.L :: l) w) :
    Calls Try.prog 42 #[.pointer (some ⟨p, 0, none⟩), .int .u8 (f : Int), .int .u8 (t : Int), .int .u8 (c : Int), .int .i64 n] w fun e w' => e = .returned (.int .i64 (trustE S f t c n)) ∧ Heap W (LdC p (trustS S f t c n).P (some q) :: LdM q (trustS S f t c n).L :: l) w' := by
  rw [trust_P]
  exact ltrust_H f t c n hf ht hc G H
theorem lpush2_H (f t c : Nat) (n : Int) (hf : f ≤ 255) (ht : t ≤ 255) (hc : c ≤ 255) (hn : -9223372036854775808 ≤ n ∧ n ≤ 9223372036854775807) (G : S.Good) (H : Heap W (LdC p S.P (some q) :: LdM q S.L :: l) w) :
    Calls Try.prog 18 #[.pointer (some ⟨p, 0, none⟩), .int .u8 (f : Int), .int .u8 (t : Int), .int .u8 (c : Int), .int .i64 n] w fun e w' => e = .returned (.int .i64 (pushE S f t c n)) ∧ Heap W (LdC p (pushS S f t c n).P (some q) :: LdM q (pushS S f t c n).L :: l) w' := by
  rw [push_P]
  exact lpush_H f t c n hf ht hc hn G H
theorem lforg2_H (f t c : Nat) (n : Int) (hf : f ≤ 255) (ht : t ≤ 255) (hc : c ≤ 255) (hn : -9223372036854775808 ≤ n ∧ n ≤ 9223372036854775807) (G : S.Good) (H : Heap W (LdC p S.P (some q) :: LdM q S.L :: l) w) :
    Calls Try.prog 51 #[.pointer (some ⟨p, 0, none⟩), .int .u8 (f : Int), .int .u8 (t : Int), .int .u8 (c : Int), .int .i64 n] w fun e w' => e = .returned (.int .i64 (forgE S f t c n)) ∧ Heap W (LdC p (forgS S f t c n).P (some q) :: LdM q (forgS S f t c n).L :: l) w' := by
  rw [forg_P]
  exact lforg_H f t c n hf ht hc hn G H
end
end Go.Proofs.Ytgobnamhdkbbeaa

/- The chapter's example of payments. -/
namespace Go.Proofs.Ytgobnamhdkbbeaa
open Go.RowKit
set_option linter.unusedSimpArgs false
set_option linter.unusedVariables false
set_option maxRecDepth 100000
section
variable {W w : World} {l : List Thing}
set_option maxHeartbeats 4000000
theorem lives09_H (H : Heap W l w) : Calls Try.prog 23 #[] w fun e w' => e = .returned (.bool true) ∧ Heap W l w' := by
  go_enter Try.func23, Try.ntmps23
  go_wp2_with (go_skip)
  refine (lnew_H H).mono ?_
  clear H
  rintro e w1 ⟨p, q, rfl, H⟩
  go_wp2_with (go_skip)
  refine (lopen2_H (p := p) (q := q) (S := Lgr.new) 1 (by omega) H).mono ?_
  clear H
  rintro e w2 ⟨rfl, H⟩
  go_wp2_with (go_skip)
  refine (lopen2_H (p := p) (q := q) (S := openS Lgr.new ((1 : Nat) : Int)) 2 (by omega) H).mono ?_
  clear H
  rintro e w3 ⟨rfl, H⟩
  go_wp2_with (go_skip)
  refine (lopen2_H (p := p) (q := q) (S := openS (openS Lgr.new ((1 : Nat) : Int)) ((2 : Nat) : Int)) 3 (by omega) H).mono ?_
  clear H
  rintro e w4 ⟨rfl, H⟩
  replace H : Heap W (LdC p p9a.P (some q) :: LdM q p9a.L :: l) w4 := H
  go_wp2_with (go_skip)
  refine (ltrust2_H (p := p) (q := q) (S := p9a) 2 1 1 10 (by omega) (by omega) (by omega) p9a_good H).mono ?_
  clear H
  rintro e w5 ⟨rfl, H⟩
  go_wp2_with (go_skip)
  refine (ltrust2_H (p := p) (q := q) (S := trustS p9a ((2 : Nat) : Int) ((1 : Nat) : Int) ((1 : Nat) : Int) 10) 3 2 1 4 (by omega) (by omega) (by omega) (p9a_good.trust _ _ _ _) H).mono ?_
  clear H
  rintro e w6 ⟨rfl, H⟩
  replace H : Heap W (LdC p p9S.P (some q) :: LdM q p9S.L :: l) w6 := H
  go_wp2_with (go_skip)
  refine (payMost_H (p := p) (q := q) (S := p9S) 1 3 1 (by omega) (by omega) (by omega) p9S_good (by (repeat (first | (with_reducible exact List.mem_cons_self) | with_reducible apply List.mem_cons_of_mem))) (by (repeat (first | (with_reducible exact List.mem_cons_self) | with_reducible apply List.mem_cons_of_mem))) H).mono ?_
  clear H
  rintro e w7 ⟨P, got, rfl, hr, H⟩
  obtain ⟨-, rfl⟩ := hr.eq (p9_route 9223372036854775807 (by omega))
  clear hr
  go_wp2_with (go_skip)
  refine (pay_H (p := p) (q := q) (S := p9S) 1 3 1 5 (by omega) (by omega) (by omega) (by omega) p9S_good H).mono ?_
  clear H
  rintro e w8 ⟨k, e0, S', rfl, ho, H⟩
  obtain ⟨rfl, rfl, rfl⟩ := ho.det p9_no
  clear ho
  go_wp2_with (go_skip)
  refine (pay_H (p := p) (q := q) (S := p9S) 1 3 1 4 (by omega) (by omega) (by omega) (by omega) p9S_good H).mono ?_
  clear H
  rintro e w9 ⟨k, e0, S', rfl, ho, H⟩
  obtain ⟨rfl, rfl, rfl⟩ := ho.det p9_yes
  clear ho
  go_wp2_with (go_skip)
  refine (pay_H (p := p) (q := q) (S := p9T) 3 1 1 4 (by omega) (by omega) (by omega) (by omega) p9T_good H).mono ?_
  clear H
  rintro e w10 ⟨k, e0, S', rfl, ho, H⟩
  obtain ⟨rfl, rfl, rfl⟩ := ho.det p9_rev
  clear ho
  go_wp2_with (go_skip)
  refine (pay_H (p := p) (q := q) (S := p9U) 1 1 1 4 (by omega) (by omega) (by omega) (by omega) p9U_good H).mono ?_
  clear H
  rintro e w11 ⟨k, e0, S', rfl, ho, H⟩
  obtain ⟨rfl, rfl, rfl⟩ := ho.det p9_bad
  clear ho
  go_wp2_with (go_skip)
  refine (pay_H (p := p) (q := q) (S := p9U) 1 9 1 4 (by omega) (by omega) (by omega) (by omega) p9U_good H).mono ?_
  clear H
  rintro e w12 ⟨k, e0, S', rfl, ho, H⟩
  obtain ⟨rfl, rfl, rfl⟩ := ho.det p9_none
  clear ho
  go_wp2_with (go_skip)
  go_ret
  exact ⟨rfl, H.tail.tail⟩
end
end Go.Proofs.Ytgobnamhdkbbeaa

/- An Ask for a payment in memory, and as an argument. -/
namespace Go.Proofs.Ytgobnamhdkbbeaa
open Go.ChangeShapes Go.WideShapes Go.ChangeAt Go.RowKit
set_option linter.unusedVariables false
set_option maxRecDepth 100000
structure Ask9 where
  f : Nat
  t : Nat
  c : Nat
  n : Int
abbrev ask9 (f : Int) (t : Int) (c : Int) (n : Int) : Array Value := #[.int .u8 f, .int .u8 t, .int .u8 c, .int .i64 n]
section
variable (f : Int) (t : Int) (c : Int) (n : Int)
theorem ask9_sz : (ask9 f t c n).size = 4 := rfl
theorem ask9_g0 : (ask9 f t c n)[0]? = some (.int .u8 f) := rfl
theorem ask9_s0 (v : Int) : (ask9 f t c n).setIfInBounds 0 (.int .u8 v) = ask9 v t c n := rfl
theorem ask9_g1 : (ask9 f t c n)[1]? = some (.int .u8 t) := rfl
theorem ask9_s1 (v : Int) : (ask9 f t c n).setIfInBounds 1 (.int .u8 v) = ask9 f v c n := rfl
theorem ask9_g2 : (ask9 f t c n)[2]? = some (.int .u8 c) := rfl
theorem ask9_s2 (v : Int) : (ask9 f t c n).setIfInBounds 2 (.int .u8 v) = ask9 f t v n := rfl
theorem ask9_g3 : (ask9 f t c n)[3]? = some (.int .i64 n) := rfl
theorem ask9_s3 (v : Int) : (ask9 f t c n).setIfInBounds 3 (.int .i64 v) = ask9 f t c v := rfl
end
abbrev askA (x : Ask9) : Array Value := ask9 (x.f : Int) (x.t : Int) (x.c : Int) x.n
def AskOk (x : Ask9) : Prop := x.f ≤ 255 ∧ x.t ≤ 255 ∧ x.c ≤ 255 ∧ (-9223372036854775808 ≤ x.n ∧ x.n ≤ 9223372036854775807)
theorem row_ask9 : RowTy 43 4 (ask9 0 0 0 0) := ⟨⟨_, Try.underlying43, rfl⟩, by kernel_rfl, by kernel_rfl⟩
theorem ask9_all (f t c n : Int) : (ask9 f t c n).extract 0 (0 + 4) = ask9 f t c n := by simp
theorem ask9_cells (f t c n : Int) : Cells 4 (ask9 f t c n) := ⟨rfl, by simp [Value.oneCell']⟩
theorem ask9_splice (f t c n f' t' c' n' : Int) : splice (ask9 f t c n) 0 (ask9 f' t' c' n') = ask9 f' t' c' n' := splice_all rfl
theorem flat_ask9 : flat Try.prog 9 43 = some [30, 30, 23, 2] := by kernel_rfl
def AskArg (w : World) (v : Value) : Prop := ∃ x : Ask9, v = .agg (askA x) ∧ AskOk x
theorem open_ask9 {H : Type} {enc : TypeId × Value → H} {W : World} {held : Bool} {v : Value} {d : DataW H} {p : List MemPlace} {r : Reach} {b0 : Nat}
    (hval : Value.okWide Try.prog W r b0 43 v) (h : DataW.Trod enc Try.prog W 0 (fun _ => true) held 43 v d p) : AskArg W v := by
  obtain ⟨cs, rfl, hn, hp⟩ := open_flat (.inl ⟨_, Try.underlying43⟩) flat_ask9 hval h
  obtain ⟨x0, h0, k0⟩ := hp 0 _ rfl
  obtain ⟨x1, h1, k1⟩ := hp 1 _ rfl
  obtain ⟨x2, h2, k2⟩ := hp 2 _ rfl
  obtain ⟨x3, h3, k3⟩ := hp 3 _ rfl
  obtain ⟨w0, rfl, q0⟩ := leaf_party k0
  obtain ⟨w1, rfl, q1⟩ := leaf_party k1
  obtain ⟨w2, rfl, q2⟩ := leaf_cur k2
  obtain ⟨w3, rfl, q3⟩ := leaf_i64 k3
  obtain ⟨l⟩ := cs
  refine ⟨⟨w0, w1, w2, w3⟩, ?_, q0, q1, q2, q3⟩
  match l, hn with
  | [c0, c1, c2, c3], _ => simp at h0 h1 h2 h3; subst_vars; rfl
end Go.Proofs.Ytgobnamhdkbbeaa

/- Flows: who is reached, as bits; and what a set of parties lets out (plain). -/
namespace Go.Proofs.Ytgobnamhdkbbeaa
open Go.RowKit
set_option linter.unusedSimpArgs false
set_option linter.unusedVariables false
def Closed (c : Caps) (T : Nat → Bool) : Prop := ∀ a b, 1 ≤ a → a ≤ 16 → 1 ≤ b → b ≤ 16 → T a = true → 0 < c a b → T b = true
theorem Closed.cut {c : Caps} (hg : GoodC c) {T : Nat → Bool} (h : Closed c T) : cutS c T = 0 := by
  refine sumN_zero _ fun a _ => sumN_zero _ fun b _ => ?_
  split
  · rename_i hs
    simp only [Bool.and_eq_true, Bool.not_eq_true'] at hs
    have hge := hg.ge a b
    by_cases hp : 0 < c a b
    · have h1 := mayP_true (hg.may a b hp).1
      have h2 := mayP_true (hg.may a b hp).2
      have := h a b (by omega) (by omega) (by omega) (by omega) hs.1 hp
      rw [hs.2] at this; cases this
    · omega
  · rfl
theorem sumN_at {g : Nat → Int} : ∀ k, (∀ i, i < k → 0 ≤ g i) → sumN k g = 0 → ∀ i, i < k → g i = 0
  | 0, _, _, i, hi => by omega
  | k + 1, e, h, i, hi => by
    rw [sumN] at h
    have h1 := sumN_nonneg k (fun i hi => e i (by omega))
    have h2 := e k (by omega)
    by_cases e2 : i = k
    · subst e2; omega
    · exact sumN_at k (fun i hi => e i (by omega)) (by omega) i (by omega)
theorem Closed.of_cut {c : Caps} (hg : GoodC c) {T : Nat → Bool} (h : cutS c T = 0) : Closed c T := by
  intro a b h1 h2 h3 h4 ha hp
  have r := sumN_at 17 (fun a _ => sumN_nonneg 17 fun b _ => by split <;> first | exact hg.ge _ _ | exact Int.le_refl _) h a (by omega)
  have r2 := sumN_at 17 (fun b _ => by split <;> first | exact hg.ge _ _ | exact Int.le_refl _) r b (by omega)
  cases hb : T b
  · simp only [ha, hb] at r2
    simp at r2
    omega
  · rfl
def cnt (S : Nat → Bool) : Nat := (List.range 17).countP S
theorem countS_lt {S T : Nat → Bool} (h : ∀ p, S p = true → T p = true) : ∀ (L : List Nat), (∃ p ∈ L, T p = true ∧ S p = false) → L.countP S < L.countP T
  | [], ⟨p, hp, _⟩ => by cases hp
  | x :: L, ⟨p, hp, h1, h2⟩ => by
    have hle : L.countP S ≤ L.countP T := List.countP_mono_left fun x _ hx => h x hx
    rw [List.countP_cons, List.countP_cons]
    rcases List.mem_cons.1 hp with rfl | hp
    · rw [h1, h2]; simp; omega
    · have := countS_lt h L ⟨p, hp, h1, h2⟩
      cases hx : S x
      · simp; split <;> omega
      · rw [h x hx]; simp; omega
theorem cnt_le {S : Nat → Bool} (h0 : S 0 = false) : cnt S ≤ 16 := by
  unfold cnt
  rw [List.range_succ_eq_map, List.countP_cons, h0]
  simp only [Bool.false_eq_true, if_false, Nat.add_zero]
  have := List.countP_le_length (p := S) (l := (List.range 16).map Nat.succ)
  simpa using this
theorem getL_or (M : BitVec 32) (b p : Nat) (hb : b < 32) : (M ||| (1#32 <<< b)).getLsbD p = (M.getLsbD p || decide (p = b)) := by
  rw [BitVec.getLsbD_or, BitVec.getLsbD_shiftLeft]
  congr 1
  by_cases h : p = b
  · subst h; simp [hb]
  · simp only [h, decide_false]
    by_cases h2 : p < b
    · simp [h2]
    · have : p - b ≠ 0 := by omega
      simp [BitVec.getLsbD_one, this]
structure RchIn (c : Caps) (M0 : BitVec 32) (a b : Nat) (M : BitVec 32) : Prop where
  up : ∀ p, M0.getLsbD p = true → M.getLsbD p = true
  snd : ∀ T : Nat → Bool, Closed c T → (∀ p, M0.getLsbD p = true → T p = true) → ∀ p, M.getLsbD p = true → T p = true
  did : ∀ x y, 1 ≤ x → x ≤ 16 → 1 ≤ y → y ≤ 16 → (x < a ∨ x = a ∧ y < b) → M0.getLsbD x = true → 0 < c x y → M.getLsbD y = true
theorem RchIn.start (c : Caps) (M : BitVec 32) : RchIn c M 1 1 M := ⟨fun _ h => h, fun _ _ h => h, fun x y h1 _ h2 _ h => by omega⟩
theorem RchIn.row {c : Caps} {M0 M : BitVec 32} {a : Nat} (h : RchIn c M0 a 17 M) : RchIn c M0 (a + 1) 1 M := ⟨h.up, h.snd, fun x y h1 h2 h3 h4 h5 => h.did x y h1 h2 h3 h4 (by omega)⟩
theorem RchIn.yes {c : Caps} {M0 M : BitVec 32} {a b : Nat} (h : RchIn c M0 a b M) (ha : 1 ≤ a) (ha2 : a ≤ 16) (hb : 1 ≤ b) (hb2 : b ≤ 16) (h1 : M.getLsbD a = true) (h2 : 0 < c a b) : RchIn c M0 a (b + 1) (M ||| (1#32 <<< b)) := by
  refine ⟨fun p hp => ?_, fun T hT hs p hp => ?_, fun x y k1 k2 k3 k4 k5 k6 k7 => ?_⟩
  · rw [getL_or _ _ _ (by omega), h.up p hp]; rfl
  · rw [getL_or _ _ _ (by omega)] at hp
    cases hm : M.getLsbD p
    · rw [hm] at hp
      simp at hp
      subst hp
      exact hT a p ha ha2 hb hb2 (h.snd T hT hs a h1) h2
    · exact h.snd T hT hs p hm
  · rw [getL_or _ _ _ (by omega)]
    by_cases e : x = a ∧ y = b
    · simp [e.2]
    · rw [h.did x y k1 k2 k3 k4 (by omega) k6 k7]; rfl
theorem RchIn.no {c : Caps} {M0 M : BitVec 32} {a b : Nat} (h : RchIn c M0 a b M) (h1 : ¬ (M.getLsbD a = true ∧ 0 < c a b)) : RchIn c M0 a (b + 1) M := by
  refine ⟨h.up, h.snd, fun x y k1 k2 k3 k4 k5 k6 k7 => ?_⟩
  by_cases e : x = a ∧ y = b
  · obtain ⟨rfl, rfl⟩ := e
    exact absurd ⟨h.up x k6, k7⟩ h1
  · exact h.did x y k1 k2 k3 k4 (by omega) k6 k7
structure Rch (c : Caps) (f n : Nat) (M : BitVec 32) : Prop where
  has : M.getLsbD f = true
  snd : ∀ T : Nat → Bool, Closed c T → T f = true → ∀ p, M.getLsbD p = true → T p = true
  grow : Closed c M.getLsbD ∨ n + 1 ≤ cnt M.getLsbD
theorem Rch.start (c : Caps) {f : Nat} (h1 : 1 ≤ f) (h2 : f ≤ 16) : Rch c f 0 (1#32 <<< f) := by
  have e : ∀ p, (1#32 <<< f).getLsbD p = decide (p = f) := fun p => by
    have := getL_or 0#32 f p (by omega)
    simpa using this
  refine ⟨by rw [e]; simp, fun T _ hT p hp => by rw [e] at hp; simp at hp; rw [hp]; exact hT, .inr ?_⟩
  unfold cnt
  have : 0 < (List.range 17).countP (1#32 <<< f).getLsbD := List.countP_pos_iff.2 ⟨f, List.mem_range.2 (by omega), by rw [e]; simp⟩
  omega
theorem Rch.next {c : Caps} {f n : Nat} {M0 M : BitVec 32} (h : Rch c f n M0) (g : RchIn c M0 17 1 M) : Rch c f (n + 1) M := by
  refine ⟨g.up _ h.has, fun T hT hf p hp => g.snd T hT (h.snd T hT hf) p hp, ?_⟩
  by_cases hc : Closed c M0.getLsbD
  · left
    have : M = M0 := by
      refine BitVec.eq_of_getLsbD_eq fun i hi => ?_
      cases e : M0.getLsbD i
      · cases e2 : M.getLsbD i
        · rfl
        · have := g.snd M0.getLsbD hc (fun _ h => h) i e2
          rw [e] at this; cases this
      · exact g.up i e
    rw [this]; exact hc
  · right
    have hn := h.grow.resolve_left hc
    unfold Closed at hc
    have hx : ∃ a b, 1 ≤ a ∧ a ≤ 16 ∧ 1 ≤ b ∧ b ≤ 16 ∧ M0.getLsbD a = true ∧ 0 < c a b ∧ M0.getLsbD b = false := by
      apply Classical.byContradiction
      intro hno
      refine hc fun a b h1 h2 h3 h4 h5 h6 => ?_
      cases e : M0.getLsbD b
      · exact absurd ⟨a, b, h1, h2, h3, h4, h5, h6, e⟩ hno
      · rfl
    obtain ⟨a, b, h1, h2, h3, h4, h5, h6, h7⟩ := hx
    have h8 := g.did a b h1 h2 h3 h4 (.inl (by omega)) h5 h6
    have := countS_lt g.up (List.range 17) ⟨b, List.mem_range.2 (by omega), h8, h7⟩
    unfold cnt at *
    omega
theorem Rch.fin {c : Caps} {f : Nat} {M : BitVec 32} (hg : GoodC c) (h1 : 1 ≤ f) (h : Rch c f 16 M) : Closed c M.getLsbD := by
  rcases h.grow with h2 | h2
  · exact h2
  · have h0 : M.getLsbD 0 = false := by
      cases e : M.getLsbD 0
      · rfl
      · have := h.snd (fun p => decide (1 ≤ p)) (fun a b _ _ h3 _ _ _ => by simpa using h3) (by simpa using h1) 0 e
        simp at this
    have := cnt_le h0
    omega
/-- Who is not reached is not among them. -/
theorem Rch.far {c : Caps} {f t : Nat} {M : BitVec 32} (hg : GoodC c) (hf : mayP f = true) (ht : mayP t = true) (hne : f ≠ t) (h : Rch c f 16 M) (hs : IsShort c f t []) : M.getLsbD t = false := by
  obtain ⟨S, s1, s2, s3⟩ := hs.cut hg hf ht hne
  cases e : M.getLsbD t
  · rfl
  · have := h.snd S (Closed.of_cut hg s3) s1 t e
    rw [s2] at this; cases this
end Go.Proofs.Ytgobnamhdkbbeaa

/- countinghouselaw07.Cut and Reached: what they answer. -/
namespace Go.Proofs.Ytgobnamhdkbbeaa
open Go.RowKit
attribute [local go_sem] Oper.semAt_some
set_option linter.unusedSimpArgs false
set_option linter.unusedVariables false
theorem bit_v (M : BitVec 32) (a : Nat) : bits .and .u32 (I32 M / 2 ^ a) 1 = if M.getLsbD a then 1 else 0 := by
  rw [I32_shr, bits32_and1, ← I32_m2]
  unfold I32
  rw [BitVec.toNat_ushiftRight]
  have : M.getLsbD a = (M.toNat.testBit a) := rfl
  rw [this, Nat.testBit_eq_decide_div_mod_eq, Nat.shiftRight_eq_div_pow]
  have h2 := Nat.mod_two_eq_zero_or_one (M.toNat / 2 ^ a)
  have h3 : ((M.toNat / 2 ^ a : Nat) : Int) % 2 = ((M.toNat / 2 ^ a % 2 : Nat) : Int) := by omega
  rw [h3]
  rcases h2 with h2 | h2
  · rw [h2]; rfl
  · rw [h2]; rfl
theorem bit_1 (M : BitVec 32) (a : Nat) : (bits .and .u32 (I32 M / 2 ^ a) 1 == 1) = M.getLsbD a := by
  rw [bit_v]
  cases M.getLsbD a <;> rfl
theorem bit_0 (M : BitVec 32) (a : Nat) : (bits .and .u32 (I32 M / 2 ^ a) 1 == 0) = !M.getLsbD a := by
  rw [bit_v]
  cases M.getLsbD a <;> rfl
def rowTo (c : Caps) (S : Nat → Bool) (a k : Nat) : Int := sumN k fun b => if S a && !S b then c a b else 0
def colTo (c : Caps) (S : Nat → Bool) (k : Nat) : Int := sumN k fun a => rowTo c S a 17
theorem cutS_col (c : Caps) (S : Nat → Bool) : cutS c S = colTo c S 17 := rfl
theorem sumN_mono {g : Nat → Int} (h : ∀ i, 0 ≤ g i) : ∀ {k m : Nat}, k ≤ m → sumN k g ≤ sumN m g
  | k, 0, e => by obtain rfl : k = 0 := by omega
                  exact Int.le_refl _
  | k, m + 1, e => by
    by_cases e2 : k = m + 1
    · subst e2; exact Int.le_refl _
    · have := sumN_mono h (k := k) (m := m) (by omega)
      have := h m
      rw [sumN]; omega
theorem rowTo_pos {c : Caps} (hg : GoodC c) (S : Nat → Bool) (a i : Nat) : (0 : Int) ≤ if S a && !S i then c a i else 0 := by split <;> first | exact hg.ge _ _ | exact Int.le_refl _
theorem cut_part {c : Caps} (h : PlayC c) (S : Nat → Bool) {a b : Nat} (ha : a < 17) (hb : b ≤ 17) : 0 ≤ colTo c S a + rowTo c S a b ∧ colTo c S a + rowTo c S a b ≤ 1271035441709056 := by
  have h1 := h.cutB S
  rw [cutS_col] at h1
  have p := fun a => sumN_nonneg 17 (fun i _ => rowTo_pos h.good S a i)
  have h2 : rowTo c S a b ≤ rowTo c S a 17 := sumN_mono (rowTo_pos h.good S a) hb
  have h3 : colTo c S (a + 1) ≤ colTo c S 17 := sumN_mono p (by omega)
  have h4 : colTo c S (a + 1) = colTo c S a + rowTo c S a 17 := rfl
  have h5 : 0 ≤ colTo c S a := sumN_nonneg _ fun i _ => p i
  have h6 : 0 ≤ rowTo c S a b := sumN_nonneg _ fun i _ => rowTo_pos h.good S a i
  omega
theorem good_zero {c : Caps} (hg : GoodC c) (a : Nat) : c 0 a = 0 ∧ c a 0 = 0 := by
  have h1 := hg.ge 0 a
  have h2 := hg.ge a 0
  refine ⟨?_, ?_⟩
  · by_cases e : 0 < c 0 a
    · have := mayP_true (hg.may 0 a e).1; omega
    · omega
  · by_cases e : 0 < c a 0
    · have := mayP_true (hg.may a 0 e).2; omega
    · omega
theorem col_one {c : Caps} (hg : GoodC c) (S : Nat → Bool) : colTo c S 1 = 0 := by
  have : rowTo c S 0 17 = 0 := sumN_zero _ fun b _ => by rw [(good_zero hg b).1]; split <;> rfl
  unfold colTo
  rw [sumN, this]; rfl
theorem row_one {c : Caps} (hg : GoodC c) (S : Nat → Bool) (a : Nat) : rowTo c S a 1 = 0 := by
  unfold rowTo
  rw [sumN, (good_zero hg a).2]
  split <;> rfl
structure CutL (W : World) (l : List Thing) (c : Caps) (S : Nat → Bool) (n a : Value) (wr : World) : Prop where
  out : ∃ k : Nat, a = .int .u8 (k : Int) ∧ 1 ≤ k ∧ k ≤ 17 ∧ n = .int .i64 (colTo c S k) ∧ Heap W l wr
structure CutIn (W : World) (l : List Thing) (c : Caps) (S : Nat → Bool) (a : Nat) (n b : Value) (wr : World) : Prop where
  out : ∃ k : Nat, b = .int .u8 (k : Int) ∧ 1 ≤ k ∧ k ≤ 17 ∧ n = .int .i64 (colTo c S a + rowTo c S a k) ∧ Heap W l wr
section
variable {W w : World} {l : List Thing} {p : Nat}
set_option maxRecDepth 100000
set_option maxHeartbeats 2000000
theorem cut_H (c : Caps) (M : BitVec 32) (most : Int) (hc : PlayC c) (m1 : Gr p c ∈ l) : AnsH W l 35 #[.pointer (some ⟨p, 0, none⟩), .int .u32 (I32 M), .int .i64 most] (.bool (decide (cutS c M.getLsbD ≤ most))) := by
  intro w H
  have C := fun (a b : Nat) (ha : a ≤ 255) (hb : b ≤ 255) => by
    have := cap_H (W := W) (l := l) (p := p) (c := c) a b ha hb m1
    rw [hc.good.capOf] at this
    exact this
  have HC := Lib.hid hc
  clear m1 hc
  go_enter Try.func35, Try.ntmps35
  go_wp2_with (go_skip)
  go_loopw [7, 8] (CutL W l c M.getLsbD) (fun _ i _ => 17 - (intOf i).toNat)
  case atStart => exact ⟨⟨1, rfl, by omega, by omega, by rw [col_one HC.out.good], H⟩⟩
  case round =>
    obtain ⟨a, rfl, ha1, ha17, rfl, H'⟩ := hrel.out
    clear H hrel
    have H := H'
    clear H'
    by_cases hlt : a < 17
    · have da : decide ((a : Int) < 17) = true := by simp; omega
      go_wp2_with (go_skip)
      go_loopw [7, 9] (CutIn W l c M.getLsbD a) (fun _ i _ => 17 - (intOf i).toNat)
      case atStart => exact ⟨⟨1, rfl, by omega, by omega, by rw [row_one HC.out.good, Int.add_zero], H⟩⟩
      case round =>
        obtain ⟨b, rfl, hb1, hb17, rfl, H'⟩ := hrel.out
        clear H hrel
        have H := H'
        clear H'
        by_cases hlb : b < 17
        · have s1 : Op.shift .shr .u32 (I32 M) .u8 (a : Int) = pure (.int .u32 (I32 (M >>> a))) := shr32 M .u8 a (by omega)
          have s2 : Op.shift .shr .u32 (I32 M) .u8 (b : Int) = pure (.int .u32 (I32 (M >>> b))) := shr32 M .u8 b (by omega)
          have t1 := bits32_and1 (M >>> a)
          have t2 := bits32_and1 (M >>> b)
          have e1 := bit_1 M a
          have e2 := bit_0 M b
          have hb := cut_part HC.out M.getLsbD (a := a) (b := b) hlt hb17
          have hs := cut_part HC.out M.getLsbD (a := a) (b := b + 1) hlt (by omega)
          have hr : rowTo c M.getLsbD a (b + 1) = rowTo c M.getLsbD a b + if M.getLsbD a && !M.getLsbD b then c a b else 0 := rfl
          have Cab := C a b (by omega) (by omega)
          by_cases hh : (M.getLsbD a && !M.getLsbD b) = true
          · rw [if_pos hh] at hr
            have hw : wrap64 (colTo c M.getLsbD a + rowTo c M.getLsbD a b + c a b) = colTo c M.getLsbD a + rowTo c M.getLsbD a (b + 1) := by rw [IntWalk.wrap64_in _ ⟨by omega, by omega⟩]; omega
            simp only [Bool.and_eq_true, Bool.not_eq_true'] at hh
            rw [hh.1] at e1
            rw [hh.2] at e2
            clear hb hs hr hh
            go_wp2_with (first | go_skip | ((with_reducible refine AnsH.call (by assumption) H ?_); clear H; intro _ H))
            refine ⟨?_, ?_⟩
            · exact ⟨⟨b + 1, by go_num, by omega, by omega, by rw [hw], H⟩⟩
            · simp [intOf]; omega
          · rw [if_neg hh, Int.add_zero] at hr
            cases h1 : M.getLsbD a
            · rw [h1] at e1
              clear hb hs hh
              go_wp2_with (first | go_skip | ((with_reducible refine AnsH.call (by assumption) H ?_); clear H; intro _ H))
              refine ⟨?_, ?_⟩
              · exact ⟨⟨b + 1, by go_num, by omega, by omega, by rw [hr], H⟩⟩
              · simp [intOf]; omega
            · have h2 : M.getLsbD b = true := by
                cases h2 : M.getLsbD b
                · rw [h1, h2] at hh; simp at hh
                · rfl
              rw [h1] at e1
              rw [h2] at e2
              clear hb hs hh
              go_wp2_with (first | go_skip | ((with_reducible refine AnsH.call (by assumption) H ?_); clear H; intro _ H))
              refine ⟨?_, ?_⟩
              · exact ⟨⟨b + 1, by go_num, by omega, by omega, by rw [hr], H⟩⟩
              · simp [intOf]; omega
        · obtain rfl : b = 17 := by omega
          go_wp2_with (go_skip)
          refine ⟨?_, ?_⟩
          · exact ⟨⟨a + 1, by go_num, by omega, by omega, rfl, H⟩⟩
          · simp [intOf]; omega
    · obtain rfl : a = 17 := by omega
      go_wp2_with (go_skip)
      go_ret
      exact ⟨rfl, H⟩
end
end Go.Proofs.Ytgobnamhdkbbeaa

/- countinghouselaw07.Reached: what it answers. -/
namespace Go.Proofs.Ytgobnamhdkbbeaa
open Go.RowKit
attribute [local go_sem] Oper.semAt_some
set_option linter.unusedSimpArgs false
set_option linter.unusedVariables false
structure RchL (W : World) (l : List Thing) (c : Caps) (f : Nat) (v i : Value) (wr : World) : Prop where
  out : ∃ (n : Nat) (M : BitVec 32), i = .int .i64 (n : Int) ∧ n ≤ 16 ∧ v = .int .u32 (I32 M) ∧ Rch c f n M ∧ Heap W l wr
structure RchA (W : World) (l : List Thing) (c : Caps) (M0 : BitVec 32) (v i : Value) (wr : World) : Prop where
  out : ∃ (a : Nat) (M : BitVec 32), i = .int .u8 (a : Int) ∧ 1 ≤ a ∧ a ≤ 17 ∧ v = .int .u32 (I32 M) ∧ RchIn c M0 a 1 M ∧ Heap W l wr
structure RchB (W : World) (l : List Thing) (c : Caps) (M0 : BitVec 32) (a : Nat) (v i : Value) (wr : World) : Prop where
  out : ∃ (b : Nat) (M : BitVec 32), i = .int .u8 (b : Int) ∧ 1 ≤ b ∧ b ≤ 17 ∧ v = .int .u32 (I32 M) ∧ RchIn c M0 a b M ∧ Heap W l wr
theorem I32_bit (s : Nat) : (2 : Int) ^ s % 4294967296 = I32 (1#32 <<< s) := by
  unfold I32; simp [BitVec.toNat_shiftLeft, Nat.shiftLeft_eq]
theorem bits32_or (a b : BitVec 32) : bits .or .u32 (I32 a) (I32 b) = I32 (a ||| b) := by
  have h : bits .or .u32 (I32 a) (I32 b) = IntKind.u32.wrap ((BitVec.ofInt 32 (I32 a) ||| BitVec.ofInt 32 (I32 b)).toNat : Int) := rfl
  rw [h, ofInt_I32, ofInt_I32, wrap_I32]
section
variable {W w : World} {l : List Thing} {p : Nat}
set_option maxRecDepth 100000
set_option maxHeartbeats 2000000
theorem reached_H (c : Caps) (f : Nat) (hf1 : 1 ≤ f) (hf : f ≤ 16) (hc : PlayC c) (m1 : Gr p c ∈ l) (H : Heap W l w) : Calls Try.prog 34 #[.pointer (some ⟨p, 0, none⟩), .int .u8 (f : Int)] w fun e w' => ∃ M : BitVec 32, e = .returned (.int .u32 (I32 M)) ∧ Rch c f 16 M ∧ Heap W l w' := by
  have C := fun (a b : Nat) (ha : a ≤ 255) (hb : b ≤ 255) => by
    have := cap_H (W := W) (l := l) (p := p) (c := c) a b ha hb m1
    rw [hc.good.capOf] at this
    exact this
  have HC := Lib.hid hc
  clear m1 hc
  go_enter Try.func34, Try.ntmps34
  go_wp2_with (go_skip)
  go_loopw [5, 6] (RchL W l c f) (fun _ i _ => 16 - (intOf i).toNat)
  case atStart =>
    refine ⟨⟨0, 1#32 <<< f, rfl, by omega, ?_, Rch.start c hf1 hf, H⟩⟩
    rw [Nat.mod_eq_of_lt (by omega : f < 32), I32_bit]
  case round =>
    obtain ⟨n, M0, rfl, hn, rfl, hR, H'⟩ := hrel.out
    clear H hrel
    have H := H'
    clear H'
    have HR := Lib.hid hR
    clear hR
    by_cases hlt : n < 16
    · have dn : decide ((n : Int) < 16) = true := by simp; omega
      go_wp2_with (go_skip)
      go_loopw [5, 7] (RchA W l c M0) (fun _ i _ => 17 - (intOf i).toNat)
      case atStart => exact ⟨⟨1, M0, rfl, by omega, by omega, rfl, RchIn.start c M0, H⟩⟩
      case round =>
        obtain ⟨a, Ma, rfl, ha1, ha17, rfl, hA, H'⟩ := hrel.out
        clear H hrel
        have H := H'
        clear H'
        have HA := Lib.hid hA
        clear hA
        by_cases hla : a < 17
        · have da : decide ((a : Int) < 17) = true := by simp; omega
          go_wp2_with (go_skip)
          go_loopw [5, 8] (RchB W l c M0 a) (fun _ i _ => 17 - (intOf i).toNat)
          case atStart => exact ⟨⟨1, Ma, rfl, by omega, by omega, rfl, HA.out, H⟩⟩
          case round =>
            obtain ⟨b, M, rfl, hb1, hb17, rfl, hB, H'⟩ := hrel.out
            clear H hrel
            have H := H'
            clear H'
            have HB := Lib.hid hB
            clear hB
            by_cases hlb : b < 17
            · have Cab := C a b (by omega) (by omega)
              have e1 := bit_1 M a
              cases h1 : M.getLsbD a
              · rw [h1] at e1
                go_wp2_with (first | go_skip | ((with_reducible refine AnsH.call (by assumption) H ?_); clear H; intro _ H))
                refine ⟨?_, ?_⟩
                · exact ⟨⟨b + 1, M, by go_num, by omega, by omega, rfl, HB.out.no (by rw [h1]; simp), H⟩⟩
                · simp [intOf]; omega
              · rw [h1] at e1
                by_cases hp : 0 < c a b
                · have f1 : decide (c a b > 0) = true := by simpa using hp
                  have f2 : decide (0 < c a b) = true := by simpa using hp
                  go_wp2_with (first | go_skip | ((with_reducible refine AnsH.call (by assumption) H ?_); clear H; intro _ H))
                  refine ⟨?_, ?_⟩
                  · exact ⟨⟨b + 1, _, by go_num, by omega, by omega, by rw [I32_bit, bits32_or], HB.out.yes ha1 (by omega) hb1 (by omega) h1 hp, H⟩⟩
                  · simp [intOf]; omega
                · have f1 : decide (c a b > 0) = false := by simpa using hp
                  have f2 : decide (0 < c a b) = false := by simpa using hp
                  go_wp2_with (first | go_skip | ((with_reducible refine AnsH.call (by assumption) H ?_); clear H; intro _ H))
                  refine ⟨?_, ?_⟩
                  · exact ⟨⟨b + 1, M, by go_num, by omega, by omega, rfl, HB.out.no (fun h => absurd h.2 (by omega)), H⟩⟩
                  · simp [intOf]; omega
            · obtain rfl : b = 17 := by omega
              go_wp2_with (go_skip)
              refine ⟨?_, ?_⟩
              · exact ⟨⟨a + 1, M, by go_num, by omega, by omega, rfl, HB.out.row, H⟩⟩
              · simp [intOf]; omega
        · obtain rfl : a = 17 := by omega
          go_wp2_with (go_skip)
          refine ⟨?_, ?_⟩
          · exact ⟨⟨n + 1, Ma, by go_num, by omega, rfl, HR.out.next HA.out, H⟩⟩
          · simp [intOf]; omega
    · obtain rfl : n = 16 := by omega
      go_wp2_with (go_skip)
      go_ret
      exact ⟨M0, rfl, HR.out, H⟩
end
end Go.Proofs.Ytgobnamhdkbbeaa
