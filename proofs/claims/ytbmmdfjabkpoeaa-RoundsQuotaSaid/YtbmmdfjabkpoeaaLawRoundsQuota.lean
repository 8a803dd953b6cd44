/- RoundsQuota: its walk. -/
import Derived.Test.YtbmmdfjabkpoeaaRndGPart9
namespace Go.Proofs.Ytbmmdfjabkpoeaa
open Go.RowKit
set_option linter.unusedSimpArgs false
set_option linter.unusedVariables false
set_option maxRecDepth 100000
def qE (F : List Flw) : List Edg := F.map fun x => ⟨x.f, x.t, -1⟩
theorem qE_is : ∀ {F : List Flw}, (∀ x ∈ F, 1 ≤ x.n) → edD F (F.map Flw.n) = qE F
  | [], _ => rfl
  | x :: F, h => by
    have ih := qE_is (F := F) fun y hy => h y (List.mem_cons_of_mem _ hy)
    have hx := h x List.mem_cons_self
    show edX x x.n ++ edD F (F.map Flw.n) = _
    rw [ih]
    unfold edX
    rw [if_pos (by omega), if_neg (by omega)]
    rfl
theorem leftL_all : ∀ {F : List Flw}, (∀ x ∈ F, 1 ≤ x.n) → leftL F (F.map Flw.n) = F
  | [], _ => rfl
  | x :: F, h => by
    have ih := leftL_all (F := F) fun y hy => h y (List.mem_cons_of_mem _ hy)
    have hx := h x List.mem_cons_self
    show (if 0 < x.n then [(⟨x.f, x.t, x.n⟩ : Flw)] else []) ++ leftL F (F.map Flw.n) = _
    rw [ih, if_pos (by omega)]
    rfl
theorem MayD.pos {F : List Flw} (h : MayD F) : ∀ x ∈ F, 1 ≤ x.n := fun x hx => by
  obtain ⟨i, hi, rfl⟩ := List.mem_iff_getElem.1 hx
  have := h.okX (List.getElem?_eq_getElem hi)
  omega
theorem qE_take {F : List Flw} {k : Nat} {x : Flw} (h : F[k]? = some x) : qE (F.take (k + 1)) = qE (F.take k) ++ [⟨x.f, x.t, -1⟩] := by
  unfold qE
  rw [List.take_add_one, h, Option.toList_some, List.map_append]
  rfl
theorem qE_len (F : List Flw) : (qE F).length = F.length := by simp [qE]
structure QR (W : World) (l : List Thing) (F : List Flw) (n : Nat) (v i : Value) (wr : World) : Prop where
  out : ∃ k : Nat, k ≤ n ∧ i = .int .i64 (k : Int) ∧ Heap W (RowT 42 3 v k (edgL (qE (F.take k))) :: l) wr
section
variable {W w : World} {l : List Thing}
set_option maxHeartbeats 8000000
theorem rquota_H (a : Option Addr) (n c : Nat) (F : List Flw) (hl : F.length = n) (h63 : n ≤ 9223372036854775807) (hF : ∀ x ∈ F, FlwOk x) (R : ∀ l' w', Heap W l' w' → Rd w' a (flwL F)) (H : Heap W l w) :
    Calls Try.prog 5 #[.slice a n c] w fun e w' => e = .returned (.bool true) ∧ Heap W [] w' := by
  have G := great8_H (W := W) (l := l) a n c F hl h63 (fun l' w' _ H => R l' w' H)
  have LV := fun l' w' (H : Heap W l' w') => lives08_H H
  go_enter Try.func5, Try.ntmps5
  by_cases hg : great8 F = true
  · rw [hg] at G
    clear hg
    go_wp2_with (first | go_skip | ((with_reducible refine AnsH.call (by assumption) H ?_); clear H; intro _ H) | (refine (LV _ _ H).mono ?_; clear H; rintro _ _ ⟨rfl, H⟩))
    go_ret
    exact ⟨rfl, H.nothing⟩
  · have hg2 : great8 F = false := by simpa using hg
    have h240 := great8_few hg2
    rw [hl] at h240
    rw [hg2] at G
    clear hg hg2
    have LS := fun l' q w' (hq : q ≤ 9223372036854775807) (H : Heap W l' w') => least8_S a n c F q hl (by omega) hF hq (fun l'' w'' _ H => R l'' w'' H) H
    have HL := Lib.hid hl
    have HF := Lib.hid hF
    have HR := Lib.hid R
    clear hl R hF
    go_wp2_with (first | go_skip | ((with_reducible refine AnsH.call (by assumption) H ?_); clear H; intro _ H))
    refine (LS _ 1152921504606846976 _ (by omega) H).mono ?_
    clear H
    rintro _ _ ⟨b1, m1, d1, L, k, er, rfl, hm1, hd1, hx1, ho, H⟩
    rcases ho with ⟨_, rfl, rfl, rfl⟩ | ⟨hM, _, j, N, ht, hj, ⟨hr, rfl, rfl, rfl⟩ | ⟨_, _, rfl, rfl, rfl⟩⟩
    · go_wp2_with (first | go_skip | (refine (LV _ _ H).mono ?_; clear H; rintro _ _ ⟨rfl, H⟩))
      go_ret
      exact ⟨rfl, H.nothing⟩
    · have HM := Lib.hid hM
      have HRT := Lib.hid ht
      have HRN := Lib.hid hr
      have HM1 := Lib.hid hm1
      have o1 : LeastOut 13 F (j : Int) (leftL F N) (j : Int) 0 := .inr ⟨hM, by omega, j, N, ht, by omega, .inl ⟨hr, rfl, rfl, rfl⟩⟩
      have o2 : 0 < j → LeastOut 13 F ((j : Int) - 1) [] 0 13 := fun h => by
        obtain ⟨N', n1, n2⟩ := ht.low (j - 1) (by omega)
        exact .inr ⟨hM, by omega, j - 1, N', n1, by omega, .inr ⟨n2 (by omega), by omega, rfl, rfl, rfl⟩⟩
      have o3 : j = 0 → leftL F N = F ∧ roundOf (qE F) = [] := fun h => by
        subst h
        cases ht
        exact ⟨leftL_all hM.pos, by rw [← qE_is hM.pos]; exact hr⟩
      have O2 := Lib.hid o2
      have O3 := Lib.hid o3
      clear hM ht hr o2 o3 hm1
      go_wp2_with (go_skip)
      refine (LS _ (j : Int) _ (by omega) H).mono ?_
      clear H
      rintro _ _ ⟨b2, m2, d2, L, k, er, rfl, hm2, hd2, hx2, ho, H⟩
      obtain ⟨rfl, rfl, rfl⟩ := ho.det o1
      clear ho o1
      have hlL : (leftL F N).length ≤ 240 := by have := leftL_len F N; rw [HL.out] at this; omega
      have S1 := sameFlows_P (W := W) (l := OwnT 39 3 (.slice b2 m2 d2) m2 (flwL (leftL F N)) :: OwnT 39 3 (.slice b1 m1 d1) m1 (flwL (leftL F N)) :: l) b2 b1 m2 m1 d2 d1 hm2 HM1.out (by omega) (by have := HM1.out; omega) (fun w' h => h.ownRd List.mem_cons_self) (fun w' h => h.ownRd (List.mem_cons_of_mem _ List.mem_cons_self))
      rw [decide_eq_true rfl] at S1
      by_cases h0 : 0 < j
      · have e0 : decide ((j : Int) > 0) = true := decide_eq_true (by omega)
        go_wp2_with (first | go_skip | ((with_reducible refine AnsH.call (by assumption) H ?_); clear H; intro _ H))
        refine (LS _ ((j : Int) - 1) _ (by omega) H).mono ?_
        clear H
        rintro _ _ ⟨b3, m3, d3, L, k, er, rfl, hm3, hd3, hx3, ho, H⟩
        obtain ⟨rfl, rfl, rfl⟩ := ho.det (O2.out h0)
        obtain rfl : m3 = 0 := hm3.symm
        clear ho
        go_wp2_with (first | go_skip | (refine (LV _ _ H).mono ?_; clear H; rintro _ _ ⟨rfl, H⟩))
        go_ret
        exact ⟨rfl, H.nothing⟩
      · have e0 : decide ((j : Int) > 0) = false := decide_eq_false (by omega)
        obtain rfl : j = 0 := by omega
        obtain ⟨hL, hRd⟩ := O3.out rfl
        have HRD := Lib.hid hRd
        have HLL := Lib.hid hL
        clear hL hRd
        go_wp2_with (first | go_skip | ((with_reducible refine AnsH.call (by assumption) H ?_); clear H; intro _ H))
        have hL := HLL.out
        rw [hL] at H
        have hm1 : F.length = m1 := by rw [← hL]; exact HM1.out
        have HM1' := Lib.hid hm1
        obtain rfl : m1 = n := by rw [← hm1]; exact HL.out
        clear hL hm1 hm2 hlL O2 O3 HM1 e0 h0
        generalize hl2 : OwnT 39 3 (.slice b2 m2 d2) m2 (flwL F) :: OwnT 39 3 (.slice b1 m1 d1) m1 (flwL F) :: l = l2 at H
        have HL2 := Lib.hid hl2
        clear hl2
        have H0 := H.nilRow 42 3
        clear H
        go_loopw [12, 13] (fun v i wr => QR W l2 F m1 v i wr) (fun _ i _ => m1 - (intOf i).toNat)
        case atStart => exact ⟨0, Nat.zero_le _, rfl, by simpa [qE, edgL] using H0⟩
        case round =>
          obtain ⟨k, hk, rfl, H⟩ := hrel.out
          clear H0 hrel
          by_cases hlt : k < m1
          · have hfk : F[k]? = some (F[k]'(by rw [HL.out]; exact hlt)) := List.getElem?_eq_getElem _
            have hrow := flwL_at F k (by rw [HL.out]; exact hlt)
            have hlen : k * 3 + 3 ≤ (flwL F).length := by rw [flwL_len, HL.out]; omega
            generalize F[k]'(by rw [HL.out]; exact hlt) = x at *
            obtain ⟨f, t, y⟩ := x
            obtain ⟨eb, eo, rfl, _⟩ := (HR.out _ _ H).lt (by omega)
            have hcg : ∀ q v, q < 3 → (flwV ⟨f, t, y⟩)[q]? = some v → ∀ l' w', Heap W l' w' → w'.cell? ⟨eb, eo + k * 3 + q, none⟩ = some v := fun q v hq hv l' w' H' => by
              have h1 := (HR.out l' w' H').get (i := k * 3 + q) (by omega)
              rw [← Nat.add_assoc] at h1
              rw [h1, ← hv, ← hrow, List.getElem?_take, if_pos hq, List.getElem?_drop, List.getElem?_eq_getElem (by omega)]
            have hc0 := hcg 0 _ (by omega) rfl
            have hc1 := hcg 1 _ (by omega) rfl
            have htk := qE_take hfk
            have HTK := Lib.hid htk
            have hn1 : k + 1 ≤ maxLen := by unfold maxLen; omega
            have hn2 : (k + 1) * 3 ≤ 140737488355328 := by omega
            clear htk hcg hrow hfk hlen
            go_wp2_with (go_skip)
            refine wp_region_O [12, 13] [0, 1, 2, 3, 4, 5, 6, 7, 8, 9, 10, 11, 12, 13, 14] (fun l0 => ∃ pre, l0 = pre ++ l2) H ⟨[_], rfl⟩ (by kernel_rfl) (by kernel_rfl) ?_
            iterate 12 (apply wpO_step; (· rfl); (· rfl); (· rfl); (· exact Nat.le_of_ble_eq_true rfl); (· rintro l0 ⟨pre, rfl⟩ w0 H0; (first | go_big_quiet_skip | ((with_reducible apply wpQ_loadAt cell_party); (· rfl); (· rfl); (· first | exact fun w' h' => hc0 _ w' h' | exact fun w' h' => hc1 _ w' h'); (simp only [Act.put, List.setIfInBounds_toArray, List.set_cons_zero, List.set_cons_succ])) | go_big_quiet_step (fail)); (refine wpQuiet_nil ?_); (simp only [Array.getD_eq_getD_getElem?, List.getElem?_toArray, List.getElem?_cons_succ, List.getElem?_cons_zero, Option.getD_some]; rfl)); (simp only [Act.put, List.setIfInBounds_toArray, List.set_cons_zero, List.set_cons_succ]))
            refine wpO_bsR rfl rfl rfl bs_edg8 rfl (fun p => ⟨[_, _], rfl⟩) ?_
            intro pf
            (simp only [Act.put, List.setIfInBounds_toArray, List.set_cons_zero, List.set_cons_succ])
            refine wpO_append slE rfl rfl rfl rfl (.there .here) List.mem_cons_self rfl rfl (edgC_one8 _ _ _) hn1 hn2 (fun v => ⟨[_, _], rfl⟩) ?_
            intro v2
            (simp only [Act.put, List.setIfInBounds_toArray, List.set_cons_zero, List.set_cons_succ])
            (apply wpO_step; (· rfl); (· rfl); (· rfl); (· exact Nat.le_of_ble_eq_true rfl); (· rintro l0 ⟨pre, rfl⟩ w0 H0; (first | go_big_quiet_skip | fail | go_big_quiet_step (fail)); (refine wpQuiet_nil ?_); (simp only [Array.getD_eq_getD_getElem?, List.getElem?_toArray, List.getElem?_cons_succ, List.getElem?_cons_zero, Option.getD_some]; rfl)); (simp only [Act.put, List.setIfInBounds_toArray, List.set_cons_zero, List.set_cons_succ]))
            (refine wpO_nil ?_; clear H; intro _ H)
            replace H := H.drop (.there .here)
            go_wp2_with (go_skip)
            refine ⟨⟨k + 1, by omega, by go_num, ?_⟩, ?measure2⟩
            case measure2 => simp [intOf]; omega
            rw [HTK.out, edgL_app]
            simpa [edgL, edgV, edg] using H
          · obtain rfl : k = m1 := by omega
            rw [List.take_of_length_le (by rw [HL.out]; exact Nat.le_refl _), ← qE_is HM.out.pos] at H
            rename_i ev _ _
            obtain ⟨ea, ec, rfl, _, _⟩ := RowT.form0 (H.ok _ List.mem_cons_self)
            have hk2 : (edD F (F.map Flw.n)).length = k := by rw [qE_is HM.out.pos, qE_len, HL.out]
            have C2 := fun w' (H' : Heap W (RowT 42 3 (.slice ea k ec) k (edgL (edD F (F.map Flw.n))) :: l2) w') => edround_H (N := F.map Flw.n) HM.out (by rw [HL.out]; omega) ea ec (by rw [hk2]; exact H')
            rw [hk2] at C2
            rw [qE_is HM.out.pos, HRD.out] at C2
            have HK2 := Lib.hid hk2
            clear hk2
            rw [qE_is HM.out.pos] at H
            rw [← HL2.out] at H C2
            have S2 := sameFlows_P (W := W) (l := OwnT 39 3 (.slice b2 m2 d2) m2 (flwL F) :: OwnT 39 3 (.slice b1 k d1) k (flwL F) :: l) b1 a k k d1 c HL.out HL.out (by omega) (by omega) (fun w' h => h.ownRd (List.mem_cons_of_mem _ List.mem_cons_self)) (fun w' h => HR.out _ w' h)
            rw [decide_eq_true rfl] at S2
            go_wp2_with (first
              | go_skip
              | (refine (C2 _ H).mono ?_; clear C2 H; rintro _ _ ⟨ta, tc, rfl, H⟩; replace H := H.tail.tail)
              | ((with_reducible refine AnsH.call (by assumption) H ?_); clear H; intro _ H)
              | (refine (LV _ _ H).mono ?_; clear H; rintro _ _ ⟨rfl, H⟩))
            go_ret
            exact ⟨rfl, H.nothing⟩
    · go_wp2_with (first | go_skip | (refine (LV _ _ H).mono ?_; clear H; rintro _ _ ⟨rfl, H⟩))
      go_ret
      exact ⟨rfl, H.nothing⟩
end
end Go.Proofs.Ytbmmdfjabkpoeaa
