/- countinghouseref09: Most, Pay. -/
import Derived.Test.YtgobnamhdkbbeaaRef05o
import Derived.Test.YtgobnamhdkbbeaaPayGPart15
import Derived.Test.YtgobnamhdkbbeaaPay9q
namespace Go.Proofs.Ytgobnamhdkbbeaa
open Go.RowKit
set_option linter.unusedSimpArgs false
set_option linter.unusedVariables false
set_option maxRecDepth 100000
structure RPayR (W : World) (l : List Thing) (p : Nat) (S : Lgr) (c : Nat) (v : Value) (Q : List Flw) (i : Value) (wr : World) : Prop where
  out : ∃ k : Nat, k ≤ Q.length ∧ i = .int .i64 (k : Int) ∧ RefH W (FlT v Q.length Q :: l) p (pushLs S c (Q.take k)) wr
section
variable {W w : World} {l : List Thing} {p : Nat} {S : Lgr}
set_option maxHeartbeats 8000000
theorem rmost9_H (f t c : Nat) (hf : f ≤ 255) (ht : t ≤ 255) (hc : c ≤ 255) (G : S.Good) (M : RefM l p S) (H : Heap W l w) :
    Calls Try.prog 27 #[.pointer (some ⟨p, 0, none⟩), .int .u8 (f : Int), .int .u8 (t : Int), .int .u8 (c : Int)] w fun e w' => ∃ P got, e = .returned (.int .i64 got) ∧ RouteOut f t (capsS S c) 4611686018427387904 P got ∧ Heap W l w' := by
  have HP := Lib.hid (capsS_play G c)
  have C := rofG_H c hc G M H
  clear H G M
  go_enter Try.func27, Try.ntmps27
  go_wp2_with (go_skip)
  refine C.mono ?_
  clear C
  rintro e w1 ⟨g, rfl, a, cc, H⟩
  obtain ⟨N, hN⟩ : ∃ N, (edgesOf (capsS S c)).length = N := ⟨_, rfl⟩
  rw [hN] at H
  go_wp2_with (go_skip)
  refine (rmost_H (q := g) (capsS S c) f t hf ht HP.out hN (by (repeat (first | (with_reducible exact List.mem_cons_self) | with_reducible apply List.mem_cons_of_mem))) (by (repeat (first | (with_reducible exact List.mem_cons_self) | with_reducible apply List.mem_cons_of_mem))) H).mono ?_
  clear H
  rintro e w2 ⟨P, got, rfl, hr, H⟩
  go_wp2_with (go_skip)
  go_ret
  exact ⟨P, got, rfl, hr, H.tail.tail⟩
theorem rpay_H (f t c : Nat) (n : Int) (hf : f ≤ 255) (ht : t ≤ 255) (hc : c ≤ 255) (hn : -9223372036854775808 ≤ n ∧ n ≤ 9223372036854775807) (G : S.Good) (H : RefH W l p S w) :
    Calls Try.prog 28 #[.pointer (some ⟨p, 0, none⟩), .int .u8 (f : Int), .int .u8 (t : Int), .int .u8 (c : Int), .int .i64 n] w fun e w' => ∃ k e0 S', e = .returned (.tuple #[.int .i64 k, .int .i64 e0]) ∧ PayOut S f t c n k e0 S' ∧ RefH W l p S' w' := by
  obtain ⟨a, np, cp, b, m, d, e1, e2, M, H⟩ := H.open3
  have HS := Lib.hid (And.intro e1 e2)
  by_cases q0 : f < 1
  · have HB := Lib.hid (show badPay f t c n from by unfold badPay; omega)
    have v0 : decide ((f : Int) < 1) = true := decide_eq_true (by omega)
    clear q0 M e1 e2 G hn
    go_enter Try.func28, Try.ntmps28
    go_wp2_with (go_skip)
    go_ret2
    exact ⟨0, 1, S, rfl, .inl ⟨HB.out, rfl, rfl, rfl⟩, RefH.shut HS.out.1 HS.out.2 H⟩
  by_cases q1 : 16 < f
  · have HB := Lib.hid (show badPay f t c n from by unfold badPay; omega)
    have v0 : decide ((f : Int) < 1) = false := decide_eq_false (by omega)
    have v1 : decide ((f : Int) > 16) = true := decide_eq_true (by omega)
    clear q0 q1 M e1 e2 G hn
    go_enter Try.func28, Try.ntmps28
    go_wp2_with (go_skip)
    go_ret2
    exact ⟨0, 1, S, rfl, .inl ⟨HB.out, rfl, rfl, rfl⟩, RefH.shut HS.out.1 HS.out.2 H⟩
  by_cases q2 : t < 1
  · have HB := Lib.hid (show badPay f t c n from by unfold badPay; omega)
    have v0 : decide ((f : Int) < 1) = false := decide_eq_false (by omega)
    have v1 : decide ((f : Int) > 16) = false := decide_eq_false (by omega)
    have v2 : decide ((t : Int) < 1) = true := decide_eq_true (by omega)
    clear q0 q1 q2 M e1 e2 G hn
    go_enter Try.func28, Try.ntmps28
    go_wp2_with (go_skip)
    go_ret2
    exact ⟨0, 1, S, rfl, .inl ⟨HB.out, rfl, rfl, rfl⟩, RefH.shut HS.out.1 HS.out.2 H⟩
  by_cases q3 : 16 < t
  · have HB := Lib.hid (show badPay f t c n from by unfold badPay; omega)
    have v0 : decide ((f : Int) < 1) = false := decide_eq_false (by omega)
    have v1 : decide ((f : Int) > 16) = false := decide_eq_false (by omega)
    have v2 : decide ((t : Int) < 1) = false := decide_eq_false (by omega)
    have v3 : decide ((t : Int) > 16) = true := decide_eq_true (by omega)
    clear q0 q1 q2 q3 M e1 e2 G hn
    go_enter Try.func28, Try.ntmps28
    go_wp2_with (go_skip)
    go_ret2
    exact ⟨0, 1, S, rfl, .inl ⟨HB.out, rfl, rfl, rfl⟩, RefH.shut HS.out.1 HS.out.2 H⟩
  by_cases q4 : f = t
  · have HB := Lib.hid (show badPay f t c n from by unfold badPay; omega)
    have v0 : decide ((f : Int) < 1) = false := decide_eq_false (by omega)
    have v1 : decide ((f : Int) > 16) = false := decide_eq_false (by omega)
    have v2 : decide ((t : Int) < 1) = false := decide_eq_false (by omega)
    have v3 : decide ((t : Int) > 16) = false := decide_eq_false (by omega)
    have v4 : ((f : Int) == (t : Int)) = true := by simp; omega
    clear q0 q1 q2 q3 q4 M e1 e2 G hn
    go_enter Try.func28, Try.ntmps28
    go_wp2_with (go_skip)
    go_ret2
    exact ⟨0, 1, S, rfl, .inl ⟨HB.out, rfl, rfl, rfl⟩, RefH.shut HS.out.1 HS.out.2 H⟩
  by_cases q5 : c < 1
  · have HB := Lib.hid (show badPay f t c n from by unfold badPay; omega)
    have v0 : decide ((f : Int) < 1) = false := decide_eq_false (by omega)
    have v1 : decide ((f : Int) > 16) = false := decide_eq_false (by omega)
    have v2 : decide ((t : Int) < 1) = false := decide_eq_false (by omega)
    have v3 : decide ((t : Int) > 16) = false := decide_eq_false (by omega)
    have v4 : ((f : Int) == (t : Int)) = false := by simp; omega
    have v5 : decide ((c : Int) < 1) = true := decide_eq_true (by omega)
    clear q0 q1 q2 q3 q4 q5 M e1 e2 G hn
    go_enter Try.func28, Try.ntmps28
    go_wp2_with (go_skip)
    go_ret2
    exact ⟨0, 1, S, rfl, .inl ⟨HB.out, rfl, rfl, rfl⟩, RefH.shut HS.out.1 HS.out.2 H⟩
  by_cases q6 : 8 < c
  · have HB := Lib.hid (show badPay f t c n from by unfold badPay; omega)
    have v0 : decide ((f : Int) < 1) = false := decide_eq_false (by omega)
    have v1 : decide ((f : Int) > 16) = false := decide_eq_false (by omega)
    have v2 : decide ((t : Int) < 1) = false := decide_eq_false (by omega)
    have v3 : decide ((t : Int) > 16) = false := decide_eq_false (by omega)
    have v4 : ((f : Int) == (t : Int)) = false := by simp; omega
    have v5 : decide ((c : Int) < 1) = false := decide_eq_false (by omega)
    have v6 : decide ((c : Int) > 8) = true := decide_eq_true (by omega)
    clear q0 q1 q2 q3 q4 q5 q6 M e1 e2 G hn
    go_enter Try.func28, Try.ntmps28
    go_wp2_with (go_skip)
    go_ret2
    exact ⟨0, 1, S, rfl, .inl ⟨HB.out, rfl, rfl, rfl⟩, RefH.shut HS.out.1 HS.out.2 H⟩
  by_cases q7 : n < 1
  · have HB := Lib.hid (show badPay f t c n from by unfold badPay; omega)
    have v0 : decide ((f : Int) < 1) = false := decide_eq_false (by omega)
    have v1 : decide ((f : Int) > 16) = false := decide_eq_false (by omega)
    have v2 : decide ((t : Int) < 1) = false := decide_eq_false (by omega)
    have v3 : decide ((t : Int) > 16) = false := decide_eq_false (by omega)
    have v4 : ((f : Int) == (t : Int)) = false := by simp; omega
    have v5 : decide ((c : Int) < 1) = false := decide_eq_false (by omega)
    have v6 : decide ((c : Int) > 8) = false := decide_eq_false (by omega)
    have v7 : decide (n < 1) = true := decide_eq_true (by omega)
    clear q0 q1 q2 q3 q4 q5 q6 q7 M e1 e2 G hn
    go_enter Try.func28, Try.ntmps28
    go_wp2_with (go_skip)
    go_ret2
    exact ⟨0, 1, S, rfl, .inl ⟨HB.out, rfl, rfl, rfl⟩, RefH.shut HS.out.1 HS.out.2 H⟩
  by_cases q8 : 1099511627776 < n
  · have HB := Lib.hid (show badPay f t c n from by unfold badPay; omega)
    have v0 : decide ((f : Int) < 1) = false := decide_eq_false (by omega)
    have v1 : decide ((f : Int) > 16) = false := decide_eq_false (by omega)
    have v2 : decide ((t : Int) < 1) = false := decide_eq_false (by omega)
    have v3 : decide ((t : Int) > 16) = false := decide_eq_false (by omega)
    have v4 : ((f : Int) == (t : Int)) = false := by simp; omega
    have v5 : decide ((c : Int) < 1) = false := decide_eq_false (by omega)
    have v6 : decide ((c : Int) > 8) = false := decide_eq_false (by omega)
    have v7 : decide (n < 1) = false := decide_eq_false (by omega)
    have v8 : decide (n > 1099511627776) = true := decide_eq_true (by omega)
    clear q0 q1 q2 q3 q4 q5 q6 q7 q8 M e1 e2 G hn
    go_enter Try.func28, Try.ntmps28
    go_wp2_with (go_skip)
    go_ret2
    exact ⟨0, 1, S, rfl, .inl ⟨HB.out, rfl, rfl, rfl⟩, RefH.shut HS.out.1 HS.out.2 H⟩
  have HB := Lib.hid (show ¬ badPay f t c n from by unfold badPay; omega)
  have hn1 : 1 ≤ n := by omega
  have v0 : decide ((f : Int) < 1) = false := decide_eq_false (by omega)
  have v1 : decide ((f : Int) > 16) = false := decide_eq_false (by omega)
  have v2 : decide ((t : Int) < 1) = false := decide_eq_false (by omega)
  have v3 : decide ((t : Int) > 16) = false := decide_eq_false (by omega)
  have v4 : ((f : Int) == (t : Int)) = false := by simp; omega
  have v5 : decide ((c : Int) < 1) = false := decide_eq_false (by omega)
  have v6 : decide ((c : Int) > 8) = false := decide_eq_false (by omega)
  have v7 : decide (n < 1) = false := decide_eq_false (by omega)
  have v8 : decide (n > 1099511627776) = false := decide_eq_false (by omega)
  clear q0 q1 q2 q3 q4 q5 q6 q7 q8
  have HG := Lib.hid G
  have hfew := G.few16
  rw [e1] at hfew
  have HAS := fun x => AnsH.on H (rhas_H (W := W) (p := p) a np cp (.slice b m d) S.P x e1 (by omega) (fun w' h => h.rowRd (by (repeat (first | (with_reducible exact List.mem_cons_self) | with_reducible apply List.mem_cons_of_mem)))) (by (repeat (first | (with_reducible exact List.mem_cons_self) | with_reducible apply List.mem_cons_of_mem))))
  have L1 := HAS f
  have L2 := HAS t
  have HM := Lib.hid M
  have HN := Lib.hid hn
  have HN1 := Lib.hid hn1
  clear HAS hn hn1 M G e1 e2
  by_cases i1 : (f : Int) ∈ S.P
  · by_cases i2 : (t : Int) ∈ S.P
    · have HI := Lib.hid (And.intro i1 i2)
      rw [decide_eq_true i1] at L1
      rw [decide_eq_true i2] at L2
      clear i1 i2
      go_enter Try.func28, Try.ntmps28
      go_wp2_with (first | go_skip | ((with_reducible refine AnsH.call (by assumption) H ?_); clear H; intro _ H))
      clear L1 L2 v0 v1 v2 v3 v4 v5 v6 v7 v8
      refine (rofG_H c hc HG.out HM.out H).mono ?_
      clear H
      rintro e w1 ⟨g, rfl, ga, gc, H⟩
      have HP := Lib.hid (capsS_play HG.out c)
      obtain ⟨N, hN⟩ : ∃ N, (edgesOf (capsS S c)).length = N := ⟨_, rfl⟩
      rw [hN] at H
      go_wp2_with (go_skip)
      refine (rroute_H (q := g) (capsS S c) f t n hf ht HN.out.1 HN.out.2 HP.out hN (by (repeat (first | (with_reducible exact List.mem_cons_self) | with_reducible apply List.mem_cons_of_mem))) (by (repeat (first | (with_reducible exact List.mem_cons_self) | with_reducible apply List.mem_cons_of_mem))) H).mono ?_
      clear H hN
      rintro e w2 ⟨v, Q, got, rfl, hr, H⟩
      have HE := Lib.hid (Pushed.end HG.out hr)
      have HR := Lib.hid hr
      have HQL := Lib.hid (RouteOut.len HP.out hr)
      clear hr
      replace H := (H.drop (.there .here)).drop (.there .here)
      obtain ⟨qa, qc, rfl, _, _⟩ := RowT.form0 (H.ok _ List.mem_cons_self)
      by_cases hlt : got < n
      · have b1 : (got != n) = true := by simp; omega
        go_wp2_with (go_skip)
        go_ret2
        exact ⟨0, 11, S, rfl, .inr (.inr ⟨HB.out, HI.out.1, HI.out.2, Q, got, HR.out, .inl ⟨hlt, rfl, rfl, rfl⟩⟩), RefH.shut HS.out.1 HS.out.2 H.tail⟩
      · have hgn : got = n := by
          have h1 := HE.out.2.2.2.2
          have h2 := HN1.out
          omega
        have b1 : (got != n) = false := by simp [hgn]
        have HGN := Lib.hid hgn
        clear hlt hgn
        generalize hqn : Q.length = qn at *
        have HQN := Lib.hid hqn
        have hq86 := HQL.out
        clear hqn
        go_wp2_with (go_skip)
        clear b1
        have H0 := RefH.shut HS.out.1 HS.out.2 (H.perm ((List.Perm.swap _ _ _).trans ((List.Perm.cons _ (List.Perm.swap _ _ _)).trans (List.Perm.cons _ (List.Perm.cons _ (List.Perm.swap _ _ _))))))
        clear H HM HS HP
        go_loopw [14] (fun i wr => RPayR W l p S c (.slice qa qn qc) Q i wr) (fun i _ => qn - (intOf i).toNat)
        case atStart => exact ⟨0, Nat.zero_le _, rfl, by rw [HQN.out]; exact H0⟩
        case round =>
          obtain ⟨j, hj, rfl, H⟩ := hrel.out
          clear H0 hrel
          rw [HQN.out] at hj H
          obtain ⟨a3, n3, c3, b3, m3, d3, e1, e2, _, H⟩ := H.open3
          have HS := Lib.hid (And.intro e1 e2)
          clear e1 e2
          by_cases hjl : j < qn
          · have hjQ : j < Q.length := by rw [HQN.out]; exact hjl
            have hge : Q[j]? = some Q[j] := List.getElem?_eq_getElem hjQ
            have hfit := HE.out.2.1.at hge
            have hpre := pushLs_all c (Q.take j) S HG.out (HE.out.2.1.take j)
            have hsn : pushLs S c (Q.take (j + 1)) = pushS (pushLs S c (Q.take j)) Q[j].f Q[j].t c Q[j].n := by rw [List.take_add_one, hge]; exact pushLs_snoc c _ _ _
            have hbn := (capsS_play hpre.good c).bnd Q[j].f Q[j].t
            have hcaps := hpre.caps
            obtain ⟨qb, qo, rfl, _⟩ := (H.rowRd (by (repeat (first | (with_reducible exact List.mem_cons_self) | with_reducible apply List.mem_cons_of_mem)) : FlT (.slice qa qn qc) qn Q ∈ _)).lt (by rw [flwL_len, HQN.out]; omega)
            have HC := Lib.hid (fun (l0 : List Thing) (m : FlT (.slice (some ⟨qb, qo, none⟩) qn qc) qn Q ∈ l0) (w' : World) (h : Heap W l0 w') => flwL_rd (h.rowRd m) hge)
            generalize Q[j] = x at *
            rw [← hcaps] at hfit
            have HSN := Lib.hid hsn
            have HPG := Lib.hid hpre.good
            generalize pushLs S c (Q.take j) = S1 at *
            obtain ⟨⟨z1, z2, z3, z4⟩, _, _⟩ := hfit
            obtain ⟨xf, xt, xn⟩ := x
            simp only at z1 z2 z3 z4 hbn HC
            have hxf : xf ≤ 255 := by omega
            have hxt : xt ≤ 255 := by omega
            have HZ := Lib.hid (show -9223372036854775808 ≤ xn ∧ xn ≤ 9223372036854775807 by omega)
            clear hsn hcaps hbn hge hpre z1 z2 z3 z4 hjQ
            go_wp2_with (go_skip)
            refine wp_region_K [17] [0, 1, 2, 3, 4, 5, 6, 7, 8, 9, 10, 11, 12, 13, 14, 15, 16, 17] [FlT (.slice (some ⟨qb, qo, none⟩) qn qc) qn Q] H (fun t ht => by rw [List.mem_singleton.1 ht]; (repeat (first | (with_reducible exact List.mem_cons_self) | with_reducible apply List.mem_cons_of_mem))) (by kernel_rfl) (by kernel_rfl) ?_
            iterate 17 (apply wpK_step; (· rfl); (· rfl); (· rfl); (· exact Nat.le_of_ble_eq_true rfl); (· intro l0 hs0 w0 H0; (first | go_big_quiet_skip | ((with_reducible apply wpQ_loadAt); (· first | exact cell_party | exact cell_i64); (· rfl); (· rfl); (· first | exact fun w' h => (HC.out _ (hs0 _ (by (repeat (first | (with_reducible exact List.mem_cons_self) | with_reducible apply List.mem_cons_of_mem)))) w' h).1 | exact fun w' h => (HC.out _ (hs0 _ (by (repeat (first | (with_reducible exact List.mem_cons_self) | with_reducible apply List.mem_cons_of_mem)))) w' h).2.1 | exact fun w' h => (HC.out _ (hs0 _ (by (repeat (first | (with_reducible exact List.mem_cons_self) | with_reducible apply List.mem_cons_of_mem)))) w' h).2.2); (simp only [Act.put, List.setIfInBounds_toArray, List.set_cons_zero, List.set_cons_succ])) | go_big_quiet_step (fail)); (refine wpQuiet_nil ?_); (simp only [Array.getD_eq_getD_getElem?, List.getElem?_toArray, List.getElem?_cons_succ, List.getElem?_cons_zero, Option.getD_some]; rfl)); (simp only [Act.put, List.setIfInBounds_toArray, List.set_cons_zero, List.set_cons_succ]))
            refine wpK_call (f := 64) (argl := [.pointer (some ⟨p, 0, none⟩), .int .u8 (xf : Int), .int .u8 (xt : Int), .int .u8 (c : Int), .int .i64 xn]) rfl rfl rfl Try.call64 rfl ?_
            intro w0 H0
            refine (rpushL_H (p := p) (S := S1) xf xt c xn hxf hxt hc HZ.out HPG.out (RefH.shut HS.out.1 HS.out.2 H0)).mono ?_
            clear H0
            rintro e w5 ⟨rfl, H1⟩
            obtain ⟨a4, n4, c4, b4, m4, d4, e3, e4, _, H1⟩ := H1.open3
            have HS2 := Lib.hid (And.intro e3 e4)
            clear e3 e4
            refine ⟨_, _, rfl, H1, _, Keeps.refl _, (fun t ht => by rw [List.mem_singleton.1 ht]; (repeat (first | (with_reducible exact List.mem_cons_self) | with_reducible apply List.mem_cons_of_mem))), ?_⟩
            clear H1
            (simp only [Act.put, List.setIfInBounds_toArray, List.set_cons_zero, List.set_cons_succ])
            (refine wpK_nil ?_; clear H; intro _ H)
            go_wp2_with (go_skip)
            refine ⟨⟨j + 1, by rw [HQN.out]; omega, by go_num, ?_⟩, ?measure3⟩
            case measure3 => simp [intOf]; omega
            rw [HSN.out, HQN.out]
            exact RefH.shut HS2.out.1 HS2.out.2 H
          · obtain rfl : j = qn := by omega
            have eQ : Q.take j = Q := List.take_of_length_le (by rw [HQN.out]; exact Nat.le_refl _)
            rw [eQ] at HS H
            go_wp2_with (go_skip)
            go_ret2
            exact ⟨(j : Int), 0, pushLs S c Q, rfl, .inr (.inr ⟨HB.out, HI.out.1, HI.out.2, Q, got, HR.out, .inr ⟨HGN.out, rfl, by rw [HQN.out], rfl⟩⟩), RefH.shut HS.out.1 HS.out.2 (H.drop (.there (.there (.there .here))))⟩
    · have HI := Lib.hid i2
      rw [decide_eq_true i1] at L1
      rw [decide_eq_false i2] at L2
      clear i1 i2
      go_enter Try.func28, Try.ntmps28
      go_wp2_with (first | go_skip | ((with_reducible refine AnsH.call (by assumption) H ?_); clear H; intro _ H))
      go_ret2
      exact ⟨0, 7, S, rfl, .inr (.inl ⟨HB.out, .inr HI.out, rfl, rfl, rfl⟩), RefH.shut HS.out.1 HS.out.2 H⟩
  · have HI := Lib.hid i1
    rw [decide_eq_false i1] at L1
    clear i1 L2
    go_enter Try.func28, Try.ntmps28
    go_wp2_with (first | go_skip | ((with_reducible refine AnsH.call (by assumption) H ?_); clear H; intro _ H))
    go_ret2
    exact ⟨0, 7, S, rfl, .inr (.inl ⟨HB.out, .inl HI.out, rfl, rfl, rfl⟩), RefH.shut HS.out.1 HS.out.2 H⟩
end
end Go.Proofs.Ytgobnamhdkbbeaa
