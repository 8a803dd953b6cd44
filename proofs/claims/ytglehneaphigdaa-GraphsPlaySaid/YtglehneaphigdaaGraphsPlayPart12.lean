/- GraphsPlay: part 12 of its proof: LawGraphsPlay2, SameP, SameP2, Lives06. -/
import Derived.Test.YtglehneaphigdaaGraphsPlayPart11
/- GraphsPlay: its walk, where there is a graph. -/
namespace Go.Proofs.Ytglehneaphigdaa
open Go.RowKit
set_option linter.unusedSimpArgs false
set_option linter.unusedVariables false
section
variable {W w : World} {l : List Thing}
set_option maxRecDepth 100000
set_option maxHeartbeats 4000000
theorem gplay_some (ea pa : Option Addr) (en ec pn pc : Nat) (F P : List Flw) (c : Caps) (h : en ≤ 300) (h2 : pn ≤ 60) (hl : F.length = en) (hF : ∀ x ∈ F, FlwOk x) (R : ∀ l' w', (∀ x ∈ l, x ∈ l') → Heap W l' w' → Rd w' ea (flwL F)) (hpl : P.length = pn) (hP : ∀ x ∈ P, FlwOk x) (RP : ∀ l' w', (∀ x ∈ l, x ∈ l') → Heap W l' w' → Rd w' pa (flwL P)) (hG : newG F = some c) (H : Heap W l w) :
    Calls Try.prog 3 #[.slice ea en ec, .slice pa pn pc] w fun e w' => e = .returned (.bool true) ∧ Heap W l w' := by
  have d1 : decide ((en : Int) > 300) = false := by simp; omega
  have d2 : decide ((300 : Int) < en) = false := by simp; omega
  have d3 : decide ((pn : Int) > 60) = false := by simp; omega
  have d4 : decide ((60 : Int) < pn) = false := by simp; omega
  have L := fun (l : List Thing) (V : World) (H : Heap W l V) => lives05_H (W := W) (l := l) (w := V) H
  have T := twinFlows_H (W := W) (l := l) (w := w) ea en ec F hl (by omega) R H
  have N := fun (a : Option Addr) (cc : Nat) (V : World) (H : Heap W (TwT a cc en F :: l) V) => new_H (W := W) (l := TwT a cc en F :: l) (w := V) a en cc F hl (by omega) hF (fun w' h => by
      have := (h.rowRd (a := a) (n := en + 2) (c := cc) List.mem_cons_self).takeN (flwL F).length
      rwa [List.take_left] at this) H
  rw [hG] at N
  have N2 := fun (x y : Thing) (V : World) (H : Heap W (x :: y :: l) V) => rnew_H (W := W) (l := x :: y :: l) (w := V) ea en ec F hl (by omega) hF (fun l' w' hs h => R l' w' (fun z hz => hs z (List.mem_cons_of_mem _ (List.mem_cons_of_mem _ hz))) h) H
  have LF := fun (l' : List Thing) (a : Option Addr) (cc : Nat) (h1 : en + 2 ≤ cc) (h2 : cc ≤ maxLen) (m : TwT a cc en F ∈ l') (hs : ∀ x ∈ l, x ∈ l') => leftFlows_H (W := W) (l := l') a ea en cc ec F hl (by omega) h1 h2 m (fun l2 w' hs2 h => R l2 w' (fun y hy => hs2 y (hs y hy)) h)
  have HG := Lib.hid hG
  have HPC := Lib.hid (newG_play hG)
  have HP := Lib.hid (And.intro hpl (And.intro hP RP))
  have hN0 := edges_len c
  clear hl hF R hG H hpl hP RP
  go_enter Try.func3, Try.ntmps3
  go_wp2_with (go_skip)
  refine T.mono ?_
  clear T
  rintro e w1 ⟨a, cc, rfl, hc1, hc2, H⟩
  go_wp2_with (go_skip)
  refine (N a cc _ H).mono ?_
  clear N H
  rintro e w2 ⟨p, rfl, H⟩
  go_wp2_with (go_skip)
  refine (N2 _ _ _ H).mono ?_
  clear H N2
  rintro e w3 (⟨hno, _⟩ | ⟨c', q, hc, rfl, hgc, hbc, ra, rcc, H⟩)
  · rw [HG.out] at hno; cases hno
  obtain rfl : c = c' := by rw [HG.out] at hc; exact Option.some.inj hc
  clear hc hgc hbc
  obtain ⟨N0, hN⟩ : ∃ N0, (edgesOf c).length = N0 := ⟨_, rfl⟩
  rw [hN] at H hN0
  have HN := Lib.hid hN
  clear hN
  have LF1 := LF _ a cc hc1 hc2 (by (repeat (first | (with_reducible exact List.mem_cons_self) | with_reducible apply List.mem_cons_of_mem)) : _ ∈ RgT q (.slice ra N0 rcc) :: FlT (.slice ra N0 rcc) N0 (edgesOf c) :: Gr p c :: TwT a cc en F :: l) (fun x hx => List.mem_cons_of_mem _ (List.mem_cons_of_mem _ (List.mem_cons_of_mem _ (List.mem_cons_of_mem _ hx))))
  clear LF
  go_wp2_with (first | go_skip | ((with_reducible refine AnsH.call (by assumption) H ?_); clear H; intro _ H))
  clear LF1
  have H0 := (H.pull (.there (.there (.there .here)))).slide
  clear H
  obtain ⟨g, o, cc', e, _, _⟩ := OwnT.form (H0.ok _ List.mem_cons_self) (by omega)
  simp only [Value.slice.injEq, true_and] at e
  obtain ⟨rfl, rfl⟩ := e
  go_loopw [10] (fun i wr => PlZero W (RgT q (.slice ra N0 rcc) :: FlT (.slice ra N0 rcc) N0 (edgesOf c) :: Gr p c :: l) (some ⟨g, o, none⟩) (en + 2) cc en i wr) (fun i _ => en - (intOf i).toNat)
  case atStart => exact ⟨0, _, rfl, by omega, H0⟩
  case round =>
    obtain ⟨k, xs, rfl, hk, H'⟩ := hrel.out
    clear H0 hrel
    have H := H'
    clear H'
    have hxl := OwnT.len (H.ok _ List.mem_cons_self)
    by_cases hlt : k < en
    · have hkl : k * 3 + 2 < xs.length := by omega
      go_wp2_with (first
        | go_skip
        | ((with_reducible show wpList _ _ _ (_ :: _) _ _); (with_reducible apply wpl_storeOwnC); (· exact cell_i64); (· rfl); (· rfl); (· rfl); (· exact ⟨rfl, rfl⟩); (· exact H); (· (repeat (first | (with_reducible exact List.mem_cons_self) | with_reducible apply List.mem_cons_of_mem))); (· exact Nat.add_assoc _ _ _); (· exact hkl); (· (repeat (first | (with_reducible exact Repl.here) | with_reducible apply Repl.there))); (clear H; intro _ H); (simp only [Act.put, List.setIfInBounds_toArray, List.set_cons_zero, List.set_cons_succ])))
      refine ⟨?_, ?_⟩
      · exact ⟨⟨k + 1, _, by go_num, by omega, H⟩⟩
      · simp [intOf]; omega
    · obtain rfl : en = k := by omega
      replace H := H.tail
      go_wp2_with (go_skip)
      refine (copy_H (p := p) (c := c) H (by (repeat (first | (with_reducible exact List.mem_cons_self) | with_reducible apply List.mem_cons_of_mem)))).mono ?_
      clear H
      rintro e w4 ⟨gc, rfl, H⟩
      go_wp2_with (go_skip)
      refine (rcopy_H (p := q) (edgesOf c) N0 ra rcc HN.out (by omega) (by (repeat (first | (with_reducible exact List.mem_cons_self) | with_reducible apply List.mem_cons_of_mem))) (by (repeat (first | (with_reducible exact List.mem_cons_self) | with_reducible apply List.mem_cons_of_mem))) H).mono ?_
      clear H
      rintro e w5 ⟨qd, da, dc, rfl, H⟩
      go_wp2_with (go_skip)
      have H0 : RgH W (Gr p c :: PlayB l c gc qd da dc N0) q c w5 := ⟨ra, rcc, by
        rw [HN.out]
        exact H.top3 (.there (.there (.there .here))) (.there (.there (.there .here))) (.there (.there (.there .here)))⟩
      clear H
      go_loopw [13] (fun i wr => PlLoop W (PlayB l c gc qd da dc N0) p q pn i wr) (fun i _ => pn - (intOf i).toNat)
      case atStart => exact ⟨0, c, rfl, by omega, HPC.out, H0⟩
      case round =>
        obtain ⟨k, c1, rfl, hk, hpc, H'⟩ := hrel.out
        clear H0 hrel
        by_cases hlt : k < pn
        · obtain ⟨ra1, rc1, H⟩ := H'
          have hkP : P[k]? = some (P[k]'(by rw [HP.out.1]; exact hlt)) := List.getElem?_eq_getElem _
          have hok := HP.out.2.1 _ (List.mem_iff_getElem?.2 ⟨_, hkP⟩)
          have hrow := flwL_row hkP
          generalize P[k]'(by rw [HP.out.1]; exact hlt) = x at *
          obtain ⟨f, t, n⟩ := x
          obtain ⟨o1, o2, o3, o4⟩ := hok
          simp only at o1 o2 o3 o4 hrow
          have hs1 : ∀ x ∈ l, x ∈ RgT q (.slice ra1 (edgesOf c1).length rc1) :: FlT (.slice ra1 (edgesOf c1).length rc1) (edgesOf c1).length (edgesOf c1) :: Gr p c1 :: PlayB l c gc qd da dc N0 := fun x hx => by (repeat (first | (with_reducible exact hx) | with_reducible apply List.mem_cons_of_mem))
          obtain ⟨pb, po, rfl, _⟩ := (HP.out.2.2 _ _ hs1 H).lt (by omega)
          have HRD := HP.out.2.2 _ _ hs1 H
          go_wp2_with (first
            | go_skip
            | ((with_reducible show wpList _ _ _ (_ :: _) _ _); (with_reducible apply wpl_loadRdR row_flow); (· rfl); (· rfl); (· exact HRD); (· rfl); (· exact hrow.1); (· decide); (· exact hrow.2); (simp only [Act.put, List.setIfInBounds_toArray, List.set_cons_zero, List.set_cons_succ]))
            | ((with_reducible show wpList _ _ _ (_ :: _) _ _); (with_reducible apply wpl_allocRH row_flow); (· rfl); (· exact H); (clear H; intro px _ H); (simp only [Act.put, List.setIfInBounds_toArray, List.set_cons_zero, List.set_cons_succ]))
            | ((with_reducible show wpList _ _ _ (_ :: _) _ _); (with_reducible apply wpl_storeRH row_flow); (· rfl); (· rfl); (· rfl); (· with_reducible exact flow_cells ..); (· exact H); (· (repeat (first | (with_reducible exact List.mem_cons_self) | with_reducible apply List.mem_cons_of_mem))); (· (simp only [flow_sz, Nat.reduceAdd, Nat.reduceLeDiff, Nat.le_refl]; done)); (· with_reducible exact flow_splice ..); (· (repeat (first | (with_reducible exact Repl.here) | with_reducible apply Repl.there))); (clear H; intro _ H); (simp only [Act.put, List.setIfInBounds_toArray, List.set_cons_zero, List.set_cons_succ])))
          obtain ⟨N1, hN1⟩ : ∃ N1, (edgesOf c1).length = N1 := ⟨_, rfl⟩
          rw [hN1] at H
          have GP := Lib.hid (show ∀ (l' : List Thing) (w' : World), Heap W (Gr p c1 :: l') w' → _ from fun l' w' hh => gpush_H (W := W) (l := l') (w := w') (p := p) (c := c1) f t n o1 o2 hpc hh)
          have RPU := Lib.hid (show ∀ (l' : List Thing) (w' : World), RgH W l' q c1 w' → _ from fun l' w' hh => rpush_H (W := W) (l := l') (w := w') (p := q) c1 f t n o1 o2 o3 o4 hpc hh)
          have hp2 := hpc.push f t n
          obtain ⟨r, hr⟩ : ∃ r, pushR c1 f t n = r := ⟨_, rfl⟩
          obtain ⟨c2, hc2⟩ : ∃ c2, pushT c1 f t n = c2 := ⟨_, rfl⟩
          rw [hr, hc2] at GP RPU
          rw [hc2] at hp2
          obtain ⟨N2, hN2⟩ : ∃ N2, (edgesOf c2).length = N2 := ⟨_, rfl⟩
          have hle2 := edges_len c2
          rw [hN2] at hle2
          have CG := Lib.hid (show ∀ (l' : List Thing) (x y : Nat), x ≤ 255 → y ≤ 255 → Gr p c2 ∈ l' → AnsH W l' 21 #[.pointer (some ⟨p, 0, none⟩), .int .u8 (x : Int), .int .u8 (y : Int)] (.int .i64 (c2 x y)) from fun l' x y hx hy m => by
            have := cap_H (W := W) (l := l') (p := p) (c := c2) x y hx hy m
            rwa [hp2.good.capOf] at this)
          have CR := Lib.hid (show ∀ (l' : List Thing) (x y : Nat) (a2 : Option Addr) (k2 : Nat), x ≤ 255 → y ≤ 255 → RgT q (.slice a2 N2 k2) ∈ l' → FlT (.slice a2 N2 k2) N2 (edgesOf c2) ∈ l' → AnsH W l' 22 #[.pointer (some ⟨q, 0, none⟩), .int .u8 (x : Int), .int .u8 (y : Int)] (.int .i64 (c2 x y)) from fun l' x y a2 k2 hx hy m1 m2 => by
            have := rcap_H (W := W) (l := l') (p := q) (a := a2) (cc := k2) x y hx hy m1 m2 hN2 (by omega) (edges_ok hp2.bnd)
            rwa [hp2.good.cap] at this)
          have EG := Lib.hid (show ∀ (l' : List Thing) (w' : World), Gr p c2 ∈ l' → Heap W l' w' → Calls Try.prog 24 #[.pointer (some ⟨p, 0, none⟩)] w' fun e w'' => ∃ a2 k2, e = .returned (.slice a2 N2 N2) ∧ Heap W (FlT (.slice a2 N2 k2) N2 (edgesOf c2) :: l') w'' from fun l' w' m hh => by
            have := gedges_H (W := W) (l := l') (w := w') (p := p) (c := c2) hh m
            rwa [hN2] at this)
          have SF := Lib.hid (show ∀ (l' : List Thing) (a2 a3 : Option Addr) (k2 k3 : Nat), FlT (.slice a2 N2 k2) N2 (edgesOf c2) ∈ l' → FlT (.slice a3 N2 k3) N2 (edgesOf c2) ∈ l' → AnsH W l' 23 #[.slice a2 N2 N2, .slice a3 N2 k3] (.bool true) from fun l' a2 a3 k2 k3 m2 m3 => by
            have := sameFlows_P (W := W) (l := l') (A := edgesOf c2) (B := edgesOf c2) a2 a3 N2 N2 N2 k3 hN2 hN2 (by omega) (by omega) (fun w' h => h.rowRd m2) (fun w' h => h.rowRd m3)
            rwa [decide_eq_true rfl] at this)
          have HC2 := Lib.hid (And.intro hp2 (And.intro hN1 hN2))
          have hrr : (r != r) = false := by simp
          have hq1 : (c2 f t != c2 f t) = false := by simp
          have hq2 : (c2 t f != c2 t f) = false := by simp
          clear hrow hkP hs1 HRD hpc hp2 hN1 hN2 hc2 hr
          refine wp_region_K [7, 15, 49] [0, 1, 2, 3, 4, 5, 6, 8, 9, 10, 11, 12, 13, 14, 7, 15, 16, 17, 18, 19, 20, 21, 22, 23, 24, 25, 26, 27, 28, 29, 30, 31, 32, 33, 34, 35, 36, 37, 38, 39, 40, 41, 42, 43, 44, 45, 46, 47, 48, 50, 51, 52, 53, 49, 54, 55, 56] [Cel px (flow (f : Int) (t : Int) n) 35] H (fun t ht => by rw [List.mem_singleton.1 ht]; (repeat (first | (with_reducible exact List.mem_cons_self) | with_reducible apply List.mem_cons_of_mem))) (by kernel_rfl) (by kernel_rfl) ?_
          iterate 14 (apply wpK_step; (· rfl); (· rfl); (· rfl); (· exact Nat.le_of_ble_eq_true rfl); (· intro l0 hs0 w0 H0; (first | go_big_quiet_skip | ((with_reducible apply wpQ_loadCH); (· first | exact cell_party | exact cell_i64); (· rfl); (· rfl); (· exact hs0 _ (by (repeat (first | (with_reducible exact List.mem_cons_self) | with_reducible apply List.mem_cons_of_mem)))); (· (with_reducible first | exact flow_g0 .. | exact flow_g1 .. | exact flow_g2 ..)); (simp only [Act.put, List.setIfInBounds_toArray, List.set_cons_zero, List.set_cons_succ])) | go_big_quiet_step (fail)); (refine wpQuiet_nil ?_); (simp only [Array.getD_eq_getD_getElem?, List.getElem?_toArray, List.getElem?_cons_succ, List.getElem?_cons_zero, Option.getD_some]; rfl)); (simp only [Act.put, List.setIfInBounds_toArray, List.set_cons_zero, List.set_cons_succ]))
          refine wpK_call (f := 19) (argl := [.pointer (some ⟨p, 0, none⟩), .int .u8 (f : Int), .int .u8 (t : Int), .int .i64 n]) rfl rfl rfl Try.call19 rfl ?_
          intro w0 H0
          refine (GP.out _ _ (H0.pull (.there (.there (.there .here))))).mono ?_
          clear H0
          rintro e w6 ⟨rfl, H1⟩
          refine ⟨_, _, rfl, H1, _, Keeps.refl _, fun t ht => by rw [List.mem_singleton.1 ht]; (repeat (first | (with_reducible exact List.mem_cons_self) | with_reducible apply List.mem_cons_of_mem)), ?_⟩
          clear H1
          (simp only [Act.put, List.setIfInBounds_toArray, List.set_cons_zero, List.set_cons_succ])
          refine wpK_call (f := 20) (argl := [.pointer (some ⟨q, 0, none⟩), .int .u8 (f : Int), .int .u8 (t : Int), .int .i64 n]) rfl rfl rfl Try.call20 rfl ?_
          intro w0 H0
          refine (RPU.out _ _ ⟨ra1, rc1, by rw [HC2.out.2.1]; exact H0.top2 (.there (.there .here)) (.there (.there .here))⟩).mono ?_
          clear H0
          rintro e w7 ⟨rfl, a2, k2, H1⟩
          rw [HC2.out.2.2] at H1
          refine ⟨_, _, rfl, H1, _, fun t ht => by rw [List.mem_singleton.1 ht]; (repeat (first | (with_reducible exact List.mem_cons_self) | with_reducible apply List.mem_cons_of_mem)), Keeps.refl _, ?_⟩
          clear H1
          (simp only [Act.put, List.setIfInBounds_toArray, List.set_cons_zero, List.set_cons_succ])
          iterate 7 (apply wpK_step; (· rfl); (· rfl); (· rfl); (· exact Nat.le_of_ble_eq_true rfl); (· intro l0 hs0 w0 H0; (first | go_big_quiet_skip | ((with_reducible apply wpQ_loadCH); (· first | exact cell_party | exact cell_i64); (· rfl); (· rfl); (· exact hs0 _ (by (repeat (first | (with_reducible exact List.mem_cons_self) | with_reducible apply List.mem_cons_of_mem)))); (· (with_reducible first | exact flow_g0 .. | exact flow_g1 .. | exact flow_g2 ..)); (simp only [Act.put, List.setIfInBounds_toArray, List.set_cons_zero, List.set_cons_succ])) | go_big_quiet_step (fail)); (refine wpQuiet_nil ?_); (simp only [Array.getD_eq_getD_getElem?, List.getElem?_toArray, List.getElem?_cons_succ, List.getElem?_cons_zero, Option.getD_some]; rfl)); (simp only [Act.put, List.setIfInBounds_toArray, List.set_cons_zero, List.set_cons_succ]))
          (apply wpK_step; (· rfl); (· rfl); (· rfl); (· exact Nat.le_of_ble_eq_true rfl); (· intro l0 hs0 w0 H0; (first | go_big_quiet_skip | fail | go_big_quiet_step (exact (CG.out _ f t o1 o2 (hs0 _ (by (repeat (first | (with_reducible exact List.mem_cons_self) | with_reducible apply List.mem_cons_of_mem))))).quiet)); (refine wpQuiet_nil ?_); (simp only [Array.getD_eq_getD_getElem?, List.getElem?_toArray, List.getElem?_cons_succ, List.getElem?_cons_zero, Option.getD_some]; rfl)); (simp only [Act.put, List.setIfInBounds_toArray, List.set_cons_zero, List.set_cons_succ]))
          iterate 5 (apply wpK_step; (· rfl); (· rfl); (· rfl); (· exact Nat.le_of_ble_eq_true rfl); (· intro l0 hs0 w0 H0; (first | go_big_quiet_skip | ((with_reducible apply wpQ_loadCH); (· first | exact cell_party | exact cell_i64); (· rfl); (· rfl); (· exact hs0 _ (by (repeat (first | (with_reducible exact List.mem_cons_self) | with_reducible apply List.mem_cons_of_mem)))); (· (with_reducible first | exact flow_g0 .. | exact flow_g1 .. | exact flow_g2 ..)); (simp only [Act.put, List.setIfInBounds_toArray, List.set_cons_zero, List.set_cons_succ])) | go_big_quiet_step (fail)); (refine wpQuiet_nil ?_); (simp only [Array.getD_eq_getD_getElem?, List.getElem?_toArray, List.getElem?_cons_succ, List.getElem?_cons_zero, Option.getD_some]; rfl)); (simp only [Act.put, List.setIfInBounds_toArray, List.set_cons_zero, List.set_cons_succ]))
          (apply wpK_step; (· rfl); (· rfl); (· rfl); (· exact Nat.le_of_ble_eq_true rfl); (· intro l0 hs0 w0 H0; (first | go_big_quiet_skip | fail | go_big_quiet_step (exact (CR.out _ f t a2 k2 o1 o2 (hs0 _ (by (repeat (first | (with_reducible exact List.mem_cons_self) | with_reducible apply List.mem_cons_of_mem)))) (hs0 _ (by (repeat (first | (with_reducible exact List.mem_cons_self) | with_reducible apply List.mem_cons_of_mem))))).quiet)); (refine wpQuiet_nil ?_); (simp only [Array.getD_eq_getD_getElem?, List.getElem?_toArray, List.getElem?_cons_succ, List.getElem?_cons_zero, Option.getD_some]; rfl)); (simp only [Act.put, List.setIfInBounds_toArray, List.set_cons_zero, List.set_cons_succ]))
          iterate 8 (apply wpK_step; (· rfl); (· rfl); (· rfl); (· exact Nat.le_of_ble_eq_true rfl); (· intro l0 hs0 w0 H0; (first | go_big_quiet_skip | ((with_reducible apply wpQ_loadCH); (· first | exact cell_party | exact cell_i64); (· rfl); (· rfl); (· exact hs0 _ (by (repeat (first | (with_reducible exact List.mem_cons_self) | with_reducible apply List.mem_cons_of_mem)))); (· (with_reducible first | exact flow_g0 .. | exact flow_g1 .. | exact flow_g2 ..)); (simp only [Act.put, List.setIfInBounds_toArray, List.set_cons_zero, List.set_cons_succ])) | go_big_quiet_step (fail)); (refine wpQuiet_nil ?_); (simp only [Array.getD_eq_getD_getElem?, List.getElem?_toArray, List.getElem?_cons_succ, List.getElem?_cons_zero, Option.getD_some]; rfl)); (simp only [Act.put, List.setIfInBounds_toArray, List.set_cons_zero, List.set_cons_succ]))
          (apply wpK_step; (· rfl); (· rfl); (· rfl); (· exact Nat.le_of_ble_eq_true rfl); (· intro l0 hs0 w0 H0; (first | go_big_quiet_skip | fail | go_big_quiet_step (exact (CG.out _ t f o2 o1 (hs0 _ (by (repeat (first | (with_reducible exact List.mem_cons_self) | with_reducible apply List.mem_cons_of_mem))))).quiet)); (refine wpQuiet_nil ?_); (simp only [Array.getD_eq_getD_getElem?, List.getElem?_toArray, List.getElem?_cons_succ, List.getElem?_cons_zero, Option.getD_some]; rfl)); (simp only [Act.put, List.setIfInBounds_toArray, List.set_cons_zero, List.set_cons_succ]))
          iterate 5 (apply wpK_step; (· rfl); (· rfl); (· rfl); (· exact Nat.le_of_ble_eq_true rfl); (· intro l0 hs0 w0 H0; (first | go_big_quiet_skip | ((with_reducible apply wpQ_loadCH); (· first | exact cell_party | exact cell_i64); (· rfl); (· rfl); (· exact hs0 _ (by (repeat (first | (with_reducible exact List.mem_cons_self) | with_reducible apply List.mem_cons_of_mem)))); (· (with_reducible first | exact flow_g0 .. | exact flow_g1 .. | exact flow_g2 ..)); (simp only [Act.put, List.setIfInBounds_toArray, List.set_cons_zero, List.set_cons_succ])) | go_big_quiet_step (fail)); (refine wpQuiet_nil ?_); (simp only [Array.getD_eq_getD_getElem?, List.getElem?_toArray, List.getElem?_cons_succ, List.getElem?_cons_zero, Option.getD_some]; rfl)); (simp only [Act.put, List.setIfInBounds_toArray, List.set_cons_zero, List.set_cons_succ]))
          (apply wpK_step; (· rfl); (· rfl); (· rfl); (· exact Nat.le_of_ble_eq_true rfl); (· intro l0 hs0 w0 H0; (first | go_big_quiet_skip | fail | go_big_quiet_step (exact (CR.out _ t f a2 k2 o2 o1 (hs0 _ (by (repeat (first | (with_reducible exact List.mem_cons_self) | with_reducible apply List.mem_cons_of_mem)))) (hs0 _ (by (repeat (first | (with_reducible exact List.mem_cons_self) | with_reducible apply List.mem_cons_of_mem))))).quiet)); (refine wpQuiet_nil ?_); (simp only [Array.getD_eq_getD_getElem?, List.getElem?_toArray, List.getElem?_cons_succ, List.getElem?_cons_zero, Option.getD_some]; rfl)); (simp only [Act.put, List.setIfInBounds_toArray, List.set_cons_zero, List.set_cons_succ]))
          iterate 7 (apply wpK_step; (· rfl); (· rfl); (· rfl); (· exact Nat.le_of_ble_eq_true rfl); (· intro l0 hs0 w0 H0; (first | go_big_quiet_skip | fail | go_big_quiet_step (fail)); (refine wpQuiet_nil ?_); (simp only [Array.getD_eq_getD_getElem?, List.getElem?_toArray, List.getElem?_cons_succ, List.getElem?_cons_zero, Option.getD_some]; rfl)); (simp only [Act.put, List.setIfInBounds_toArray, List.set_cons_zero, List.set_cons_succ]))
          (apply wpK_step; (· rfl); (· rfl); (· rfl); (· exact Nat.le_of_ble_eq_true rfl); (· intro l0 hs0 w0 H0; (first | go_big_quiet_skip | ((with_reducible apply wpQ_loadCH); (· exact cell_flows); (· rfl); (· rfl); (· exact hs0 _ (by (repeat (first | (with_reducible exact List.mem_cons_self) | with_reducible apply List.mem_cons_of_mem)))); (· exact rgC_g _); (simp only [Act.put, List.setIfInBounds_toArray, List.set_cons_zero, List.set_cons_succ])) | go_big_quiet_step (fail)); (refine wpQuiet_nil ?_); (simp only [Array.getD_eq_getD_getElem?, List.getElem?_toArray, List.getElem?_cons_succ, List.getElem?_cons_zero, Option.getD_some]; rfl)); (simp only [Act.put, List.setIfInBounds_toArray, List.set_cons_zero, List.set_cons_succ]))
          refine wpK_call (f := 24) (argl := [.pointer (some ⟨p, 0, none⟩)]) rfl rfl rfl Try.call24 rfl ?_
          intro w0 H0
          refine (EG.out _ _ (by (repeat (first | (with_reducible exact List.mem_cons_self) | with_reducible apply List.mem_cons_of_mem))) H0).mono ?_
          clear H0
          rintro e w8 ⟨a3, k3, rfl, H1⟩
          refine ⟨_, _, rfl, H1, _, fun t ht => List.mem_cons_of_mem _ ht, Keeps.refl _, ?_⟩
          clear H1
          (simp only [Act.put, List.setIfInBounds_toArray, List.set_cons_zero, List.set_cons_succ])
          (apply wpK_step; (· rfl); (· rfl); (· rfl); (· exact Nat.le_of_ble_eq_true rfl); (· intro l0 hs0 w0 H0; (first | go_big_quiet_skip | fail | go_big_quiet_step (exact (SF.out _ a3 a2 k3 k2 (hs0 _ (by (repeat (first | (with_reducible exact List.mem_cons_self) | with_reducible apply List.mem_cons_of_mem)))) (hs0 _ (by (repeat (first | (with_reducible exact List.mem_cons_self) | with_reducible apply List.mem_cons_of_mem))))).quiet)); (refine wpQuiet_nil ?_); (simp only [Array.getD_eq_getD_getElem?, List.getElem?_toArray, List.getElem?_cons_succ, List.getElem?_cons_zero, Option.getD_some]; rfl)); (simp only [Act.put, List.setIfInBounds_toArray, List.set_cons_zero, List.set_cons_succ]))
          iterate 2 (apply wpK_step; (· rfl); (· rfl); (· rfl); (· exact Nat.le_of_ble_eq_true rfl); (· intro l0 hs0 w0 H0; (first | go_big_quiet_skip | fail | go_big_quiet_step (fail)); (refine wpQuiet_nil ?_); (simp only [Array.getD_eq_getD_getElem?, List.getElem?_toArray, List.getElem?_cons_succ, List.getElem?_cons_zero, Option.getD_some]; rfl)); (simp only [Act.put, List.setIfInBounds_toArray, List.set_cons_zero, List.set_cons_succ]))
          (refine wpK_nil ?_; clear H; intro _ H)
          go_wp2_with (go_skip)
          refine ⟨?_, ?_⟩
          · refine ⟨⟨k + 1, c2, by go_num, by omega, HC2.out.1, a2, k2, ?_⟩⟩
            rw [HC2.out.2.2]
            exact H.tail.drop (.there (.there (.there .here)))
          · simp [intOf]; omega
        · obtain rfl : pn = k := by omega
          obtain ⟨ra1, rc1, H⟩ := H'
          obtain ⟨N1, hN1⟩ : ∃ N1, (edgesOf c1).length = N1 := ⟨_, rfl⟩
          rw [hN1] at H
          have hle1 := edges_len c1
          rw [hN1] at hle1
          have HM := Lib.hid (And.intro hN1 HN.out)
          obtain ⟨b, hb⟩ : ∃ b, matSame c1 c = b := ⟨_, rfl⟩
          have hb2 : decide (edgesOf c1 = edgesOf c) = b := by rw [← hb, same_edges hpc.good HPC.out.good]
          have hb3 : matSame c1 c1 = true := matSame_iff.2 fun _ _ _ _ => rfl
          have SM := Lib.hid (show ∀ (l' : List Thing), Gr p c1 ∈ l' → Gr gc c ∈ l' → AnsH W l' 25 #[.pointer (some ⟨p, 0, none⟩), .pointer (some ⟨gc, 0, none⟩)] (.bool b) from fun l' m1 m2 => by
            have := same_ans _ _ (all_H (W := W) (m := true) m1 (fun h => by cases h)) (all_H (W := W) (m := true) m2 (fun h => by cases h))
            rwa [hb] at this)
          have SN := Lib.hid (show ∀ (l' : List Thing) (x : Nat), Gr p c1 ∈ l' → Gr x c1 ∈ l' → AnsH W l' 25 #[.pointer (some ⟨p, 0, none⟩), .pointer (some ⟨x, 0, none⟩)] (.bool true) from fun l' x m1 m2 => by
            have := same_ans _ _ (all_H (W := W) (m := true) m1 (fun h => by cases h)) (all_H (W := W) (m := true) m2 (fun h => by cases h))
            rwa [hb3] at this)
          have SE := Lib.hid (show ∀ (l' : List Thing), FlT (.slice ra1 N1 rc1) N1 (edgesOf c1) ∈ l' → FlT (.slice da N0 dc) N0 (edgesOf c) ∈ l' → AnsH W l' 23 #[.slice ra1 N1 rc1, .slice da N0 dc] (.bool b) from fun l' m2 m3 => by
            have := sameFlows_P (W := W) (l := l') (A := edgesOf c1) (B := edgesOf c) ra1 da N1 N0 rc1 dc HM.out.1 HM.out.2 (by omega) (by omega) (fun w' h => h.rowRd m2) (fun w' h => h.rowRd m3)
            rwa [hb2] at this)
          have SD := Lib.hid (show ∀ (l' : List Thing) (a2 : Option Addr) (k2 : Nat), FlT (.slice a2 N0 k2) N0 (edgesOf c) ∈ l' → FlT (.slice da N0 dc) N0 (edgesOf c) ∈ l' → AnsH W l' 23 #[.slice a2 N0 N0, .slice da N0 dc] (.bool true) from fun l' a2 k2 m2 m3 => by
            have := sameFlows_P (W := W) (l := l') (A := edgesOf c) (B := edgesOf c) a2 da N0 N0 N0 dc HM.out.2 HM.out.2 (by omega) (by omega) (fun w' h => h.rowRd m2) (fun w' h => h.rowRd m3)
            rwa [decide_eq_true rfl] at this)
          have SF := Lib.hid (show ∀ (l' : List Thing) (a2 : Option Addr) (k2 : Nat), FlT (.slice a2 N1 k2) N1 (edgesOf c1) ∈ l' → FlT (.slice ra1 N1 rc1) N1 (edgesOf c1) ∈ l' → AnsH W l' 23 #[.slice a2 N1 N1, .slice ra1 N1 rc1] (.bool true) from fun l' a2 k2 m2 m3 => by
            have := sameFlows_P (W := W) (l := l') (A := edgesOf c1) (B := edgesOf c1) a2 ra1 N1 N1 N1 rc1 HM.out.1 HM.out.1 (by omega) (by omega) (fun w' h => h.rowRd m2) (fun w' h => h.rowRd m3)
            rwa [decide_eq_true rfl] at this)
          have EG := Lib.hid (show ∀ (l' : List Thing) (w' : World) (p' : Nat) (c' : Caps) (N' : Nat), (edgesOf c').length = N' → Gr p' c' ∈ l' → Heap W l' w' → Calls Try.prog 24 #[.pointer (some ⟨p', 0, none⟩)] w' fun e w'' => ∃ a2 k2, e = .returned (.slice a2 N' N') ∧ Heap W (FlT (.slice a2 N' k2) N' (edgesOf c') :: l') w'' from fun l' w' p' c' N' hN m hh => by
            have := gedges_H (W := W) (l := l') (w := w') (p := p') (c := c') hh m
            rwa [hN] at this)
          have hbb : (b != b) = false := by simp
          have g1 : decide ((pn : Int) < pn) = false := by simp
          clear hb hb2 hb3 hN1 hpc
          go_wp2_with (go_skip)
          refine wp_region_K0 [16, 22] [0, 1, 2, 3, 4, 5, 6, 7, 8, 9, 10, 11, 12, 13, 14, 15, 16, 17, 18, 19, 20, 21, 23, 24, 25, 26, 22, 27, 28, 29] H (by kernel_rfl) (by kernel_rfl) ?_
          iterate 2 (apply wpK_step; (· rfl); (· rfl); (· rfl); (· exact Nat.le_of_ble_eq_true rfl); (· intro l0 hs0 w0 H0; (first | go_big_quiet_skip | fail | go_big_quiet_step (fail)); (refine wpQuiet_nil ?_); (simp only [Array.getD_eq_getD_getElem?, List.getElem?_toArray, List.getElem?_cons_succ, List.getElem?_cons_zero, Option.getD_some]; rfl)); (simp only [Act.put, List.setIfInBounds_toArray, List.set_cons_zero, List.set_cons_succ]))
          (apply wpK_step; (· rfl); (· rfl); (· rfl); (· exact Nat.le_of_ble_eq_true rfl); (· intro l0 hs0 w0 H0; (first | go_big_quiet_skip | fail | go_big_quiet_step (exact (SM.out _ (hs0 _ (by (repeat (first | (with_reducible exact List.mem_cons_self) | with_reducible apply List.mem_cons_of_mem)))) (hs0 _ (by (repeat (first | (with_reducible exact List.mem_cons_self) | with_reducible apply List.mem_cons_of_mem))))).quiet)); (refine wpQuiet_nil ?_); (simp only [Array.getD_eq_getD_getElem?, List.getElem?_toArray, List.getElem?_cons_succ, List.getElem?_cons_zero, Option.getD_some]; rfl)); (simp only [Act.put, List.setIfInBounds_toArray, List.set_cons_zero, List.set_cons_succ]))
          iterate 8 (apply wpK_step; (· rfl); (· rfl); (· rfl); (· exact Nat.le_of_ble_eq_true rfl); (· intro l0 hs0 w0 H0; (first | go_big_quiet_skip | ((with_reducible apply wpQ_loadCH); (· exact cell_flows); (· rfl); (· rfl); (· exact hs0 _ (by (repeat (first | (with_reducible exact List.mem_cons_self) | with_reducible apply List.mem_cons_of_mem)))); (· exact rgC_g _); (simp only [Act.put, List.setIfInBounds_toArray, List.set_cons_zero, List.set_cons_succ])) | go_big_quiet_step (fail)); (refine wpQuiet_nil ?_); (simp only [Array.getD_eq_getD_getElem?, List.getElem?_toArray, List.getElem?_cons_succ, List.getElem?_cons_zero, Option.getD_some]; rfl)); (simp only [Act.put, List.setIfInBounds_toArray, List.set_cons_zero, List.set_cons_succ]))
          (apply wpK_step; (· rfl); (· rfl); (· rfl); (· exact Nat.le_of_ble_eq_true rfl); (· intro l0 hs0 w0 H0; (first | go_big_quiet_skip | fail | go_big_quiet_step (exact (SE.out _ (hs0 _ (by (repeat (first | (with_reducible exact List.mem_cons_self) | with_reducible apply List.mem_cons_of_mem)))) (hs0 _ (by (repeat (first | (with_reducible exact List.mem_cons_self) | with_reducible apply List.mem_cons_of_mem))))).quiet)); (refine wpQuiet_nil ?_); (simp only [Array.getD_eq_getD_getElem?, List.getElem?_toArray, List.getElem?_cons_succ, List.getElem?_cons_zero, Option.getD_some]; rfl)); (simp only [Act.put, List.setIfInBounds_toArray, List.set_cons_zero, List.set_cons_succ]))
          iterate 4 (apply wpK_step; (· rfl); (· rfl); (· rfl); (· exact Nat.le_of_ble_eq_true rfl); (· intro l0 hs0 w0 H0; (first | go_big_quiet_skip | fail | go_big_quiet_step (fail)); (refine wpQuiet_nil ?_); (simp only [Array.getD_eq_getD_getElem?, List.getElem?_toArray, List.getElem?_cons_succ, List.getElem?_cons_zero, Option.getD_some]; rfl)); (simp only [Act.put, List.setIfInBounds_toArray, List.set_cons_zero, List.set_cons_succ]))
          refine wpK_call (f := 17) (argl := [.pointer (some ⟨p, 0, none⟩)]) rfl rfl rfl Try.call17 rfl ?_
          intro w0 H0
          refine (copy_H (p := p) (c := c1) H0 (by (repeat (first | (with_reducible exact List.mem_cons_self) | with_reducible apply List.mem_cons_of_mem)))).mono ?_
          clear H0
          rintro e w6 ⟨x1, rfl, H1⟩
          refine ⟨_, _, rfl, H1, _, fun t ht => List.mem_cons_of_mem _ ht, Keeps.refl _, ?_⟩
          clear H1
          (simp only [Act.put, List.setIfInBounds_toArray, List.set_cons_zero, List.set_cons_succ])
          (apply wpK_step; (· rfl); (· rfl); (· rfl); (· exact Nat.le_of_ble_eq_true rfl); (· intro l0 hs0 w0 H0; (first | go_big_quiet_skip | fail | go_big_quiet_step (exact (SN.out _ x1 (hs0 _ (by (repeat (first | (with_reducible exact List.mem_cons_self) | with_reducible apply List.mem_cons_of_mem)))) (hs0 _ (by (repeat (first | (with_reducible exact List.mem_cons_self) | with_reducible apply List.mem_cons_of_mem))))).quiet)); (refine wpQuiet_nil ?_); (simp only [Array.getD_eq_getD_getElem?, List.getElem?_toArray, List.getElem?_cons_succ, List.getElem?_cons_zero, Option.getD_some]; rfl)); (simp only [Act.put, List.setIfInBounds_toArray, List.set_cons_zero, List.set_cons_succ]))
          iterate 8 (apply wpK_step; (· rfl); (· rfl); (· rfl); (· exact Nat.le_of_ble_eq_true rfl); (· intro l0 hs0 w0 H0; (first | go_big_quiet_skip | ((with_reducible apply wpQ_loadCH); (· exact cell_flows); (· rfl); (· rfl); (· exact hs0 _ (by (repeat (first | (with_reducible exact List.mem_cons_self) | with_reducible apply List.mem_cons_of_mem)))); (· exact rgC_g _); (simp only [Act.put, List.setIfInBounds_toArray, List.set_cons_zero, List.set_cons_succ])) | go_big_quiet_step (fail)); (refine wpQuiet_nil ?_); (simp only [Array.getD_eq_getD_getElem?, List.getElem?_toArray, List.getElem?_cons_succ, List.getElem?_cons_zero, Option.getD_some]; rfl)); (simp only [Act.put, List.setIfInBounds_toArray, List.set_cons_zero, List.set_cons_succ]))
          refine wpK_call (f := 24) (argl := [.pointer (some ⟨gc, 0, none⟩)]) rfl rfl rfl Try.call24 rfl ?_
          intro w0 H0
          refine (EG.out _ _ gc c N0 HM.out.2 (by (repeat (first | (with_reducible exact List.mem_cons_self) | with_reducible apply List.mem_cons_of_mem))) H0).mono ?_
          clear H0
          rintro e w7 ⟨a3, k3, rfl, H1⟩
          refine ⟨_, _, rfl, H1, _, fun t ht => List.mem_cons_of_mem _ ht, Keeps.refl _, ?_⟩
          clear H1
          (simp only [Act.put, List.setIfInBounds_toArray, List.set_cons_zero, List.set_cons_succ])
          (apply wpK_step; (· rfl); (· rfl); (· rfl); (· exact Nat.le_of_ble_eq_true rfl); (· intro l0 hs0 w0 H0; (first | go_big_quiet_skip | fail | go_big_quiet_step (exact (SD.out _ a3 k3 (hs0 _ (by (repeat (first | (with_reducible exact List.mem_cons_self) | with_reducible apply List.mem_cons_of_mem)))) (hs0 _ (by (repeat (first | (with_reducible exact List.mem_cons_self) | with_reducible apply List.mem_cons_of_mem))))).quiet)); (refine wpQuiet_nil ?_); (simp only [Array.getD_eq_getD_getElem?, List.getElem?_toArray, List.getElem?_cons_succ, List.getElem?_cons_zero, Option.getD_some]; rfl)); (simp only [Act.put, List.setIfInBounds_toArray, List.set_cons_zero, List.set_cons_succ]))
          iterate 2 (apply wpK_step; (· rfl); (· rfl); (· rfl); (· exact Nat.le_of_ble_eq_true rfl); (· intro l0 hs0 w0 H0; (first | go_big_quiet_skip | fail | go_big_quiet_step (fail)); (refine wpQuiet_nil ?_); (simp only [Array.getD_eq_getD_getElem?, List.getElem?_toArray, List.getElem?_cons_succ, List.getElem?_cons_zero, Option.getD_some]; rfl)); (simp only [Act.put, List.setIfInBounds_toArray, List.set_cons_zero, List.set_cons_succ]))
          (refine wpK_nil ?_; clear H; intro _ H)
          replace H := H.tail.tail
          go_wp2_with (first
            | go_skip
            | ((with_reducible show wpList _ _ _ (_ :: _) _ _); (with_reducible apply wpl_allocRH row_book); (· rfl); (· exact H); (clear H; intro kb _ H); (simp only [Act.put, List.setIfInBounds_toArray, List.set_cons_zero, List.set_cons_succ]))
            | ((with_reducible show wpList _ _ _ (_ :: _) _ _); (with_reducible apply wpl_storeRH row_book); (· rfl); (· rfl); (· rfl); (· with_reducible exact bookC_cells); (· exact H); (· (repeat (first | (with_reducible exact List.mem_cons_self) | with_reducible apply List.mem_cons_of_mem))); (· (simp only [bookC_sz, Nat.reduceAdd, Nat.reduceLeDiff, Nat.le_refl]; done)); (· with_reducible exact bookC_splice ..); (· (repeat (first | (with_reducible exact Repl.here) | with_reducible apply Repl.there))); (clear H; intro _ H); (simp only [Act.put, List.setIfInBounds_toArray, List.set_cons_zero, List.set_cons_succ])))
          have B := Book.new H
          clear H
          refine (B.edges (p := p) (c := c1) (by (repeat (first | (with_reducible exact List.mem_cons_self) | with_reducible apply List.mem_cons_of_mem)))).mono ?_
          clear B
          rw [HM.out.1]
          rintro e w8 ⟨a4, rfl, B⟩
          go_wp2_with (go_skip)
          refine (lay_Fl kb [] a4 N1 N1 (by decide) B).mono ?_
          clear B
          rintro e w9 ⟨rfl, p1, B⟩
          go_wp2_with (go_skip)
          refine (B.edges (p := p) (c := c1) (by (repeat (first | (with_reducible exact List.mem_cons_self) | with_reducible apply List.mem_cons_of_mem)))).mono ?_
          clear B
          rw [HM.out.1]
          rintro e w10 ⟨a5, rfl, B⟩
          go_wp2_with (go_skip)
          refine (lay_Fl kb _ a5 N1 N1 (by simp) B).mono ?_
          clear B
          rintro e w11 ⟨rfl, p2, B⟩
          go_wp2_with (go_skip)
          obtain ⟨ba, bc, H, hok⟩ := B
          have HO := Lib.hid hok
          clear hok
          refine wp_region_K [0, 3, 11] [0, 1, 2, 4, 5, 6, 7, 3, 8, 9, 10, 11, 12, 13] (RgT q (.slice ra1 N1 rc1) :: FlT (.slice ra1 N1 rc1) N1 (edgesOf c1) :: Gr p c1 :: PlayB l c gc qd da dc N0) H (fun t ht => List.mem_cons_of_mem _ (List.mem_cons_of_mem _ (List.mem_append_right _ ht))) (by kernel_rfl) (by kernel_rfl) ?_
          refine wpK_call (f := 27) (argl := [.pointer (some ⟨kb, 0, none⟩)]) rfl rfl rfl Try.call27 rfl ?_
          intro w0 H0
          refine (Book.apart (ps := [] ++ [p1] ++ [p2]) ⟨ba, bc, H0, HO.out⟩ (by simp)).mono ?_
          clear H0
          rintro e w12 ⟨rfl, H1⟩
          refine ⟨_, _, rfl, H1, _, Keeps.refl _, Keeps.refl _, ?_⟩
          clear H1
          (simp only [Act.put, List.setIfInBounds_toArray, List.set_cons_zero, List.set_cons_succ])
          iterate 6 (apply wpK_step; (· rfl); (· rfl); (· rfl); (· exact Nat.le_of_ble_eq_true rfl); (· intro l0 hs0 w0 H0; (first | go_big_quiet_skip | ((with_reducible apply wpQ_loadCH); (· exact cell_flows); (· rfl); (· rfl); (· exact hs0 _ (by (repeat (first | (with_reducible exact List.mem_cons_self) | with_reducible apply List.mem_cons_of_mem)))); (· exact rgC_g _); (simp only [Act.put, List.setIfInBounds_toArray, List.set_cons_zero, List.set_cons_succ])) | go_big_quiet_step (fail)); (refine wpQuiet_nil ?_); (simp only [Array.getD_eq_getD_getElem?, List.getElem?_toArray, List.getElem?_cons_succ, List.getElem?_cons_zero, Option.getD_some]; rfl)); (simp only [Act.put, List.setIfInBounds_toArray, List.set_cons_zero, List.set_cons_succ]))
          refine wpK_call (f := 24) (argl := [.pointer (some ⟨p, 0, none⟩)]) rfl rfl rfl Try.call24 rfl ?_
          intro w0 H0
          refine (EG.out _ _ p c1 N1 HM.out.1 (by (repeat (first | (with_reducible exact List.mem_cons_self) | with_reducible apply List.mem_cons_of_mem))) H0).mono ?_
          clear H0
          rintro e w13 ⟨a6, k6, rfl, H1⟩
          refine ⟨_, _, rfl, H1, _, fun t ht => List.mem_cons_of_mem _ ht, Keeps.refl _, ?_⟩
          clear H1
          (simp only [Act.put, List.setIfInBounds_toArray, List.set_cons_zero, List.set_cons_succ])
          (apply wpK_step; (· rfl); (· rfl); (· rfl); (· exact Nat.le_of_ble_eq_true rfl); (· intro l0 hs0 w0 H0; (first | go_big_quiet_skip | fail | go_big_quiet_step (exact (SF.out _ a6 k6 (hs0 _ (by (repeat (first | (with_reducible exact List.mem_cons_self) | with_reducible apply List.mem_cons_of_mem)))) (hs0 _ (by (repeat (first | (with_reducible exact List.mem_cons_self) | with_reducible apply List.mem_cons_of_mem))))).quiet)); (refine wpQuiet_nil ?_); (simp only [Array.getD_eq_getD_getElem?, List.getElem?_toArray, List.getElem?_cons_succ, List.getElem?_cons_zero, Option.getD_some]; rfl)); (simp only [Act.put, List.setIfInBounds_toArray, List.set_cons_zero, List.set_cons_succ]))
          iterate 2 (apply wpK_step; (· rfl); (· rfl); (· rfl); (· exact Nat.le_of_ble_eq_true rfl); (· intro l0 hs0 w0 H0; (first | go_big_quiet_skip | fail | go_big_quiet_step (fail)); (refine wpQuiet_nil ?_); (simp only [Array.getD_eq_getD_getElem?, List.getElem?_toArray, List.getElem?_cons_succ, List.getElem?_cons_zero, Option.getD_some]; rfl)); (simp only [Act.put, List.setIfInBounds_toArray, List.set_cons_zero, List.set_cons_succ]))
          refine wpK_call (f := 12) (argl := []) rfl rfl rfl Try.call12 rfl ?_
          intro w0 H0
          refine (L _ _ H0).mono ?_
          clear H0
          rintro e w14 ⟨rfl, H1⟩
          refine ⟨_, _, rfl, H1, _, Keeps.refl _, Keeps.refl _, ?_⟩
          clear H1
          (simp only [Act.put, List.setIfInBounds_toArray, List.set_cons_zero, List.set_cons_succ])
          iterate 2 (apply wpK_step; (· rfl); (· rfl); (· rfl); (· exact Nat.le_of_ble_eq_true rfl); (· intro l0 hs0 w0 H0; (first | go_big_quiet_skip | fail | go_big_quiet_step (fail)); (refine wpQuiet_nil ?_); (simp only [Array.getD_eq_getD_getElem?, List.getElem?_toArray, List.getElem?_cons_succ, List.getElem?_cons_zero, Option.getD_some]; rfl)); (simp only [Act.put, List.setIfInBounds_toArray, List.set_cons_zero, List.set_cons_succ]))
          (refine wpK_nil ?_; clear H; intro _ H)
          go_wp2_with (go_skip)
          go_ret
          exact ⟨rfl, H.tail.tail.tail.tail.tail.tail.tail⟩
end
end Go.Proofs.Ytglehneaphigdaa

/- countinghouselaw01's SameParties. -/
namespace Go.Proofs.Ytglehneaphigdaa
open Go.RowKit
set_option linter.unusedSimpArgs false
set_option linter.unusedVariables false
section
variable {ops : Array Oper} {rest : List Oper} {a : Act} {w W : World} {l : List Thing}
theorem wpQ_loadCell {T : TypeId} {dst : Option Tmp} {ty : TypeId} {pos : String} {after : Array Edge} {guard : Option (Nat × Bool)} {x : Operand} {b off : Nat} {K : Act → Prop} {H : Heap W l w} (CT : CellTy T) (hw : Region.wanted ⟨dst, .load T x, ty, pos, after, guard⟩ (yielded ops a.tmps) = true) (hx : a.eval x = .pointer (some ⟨b, off, none⟩))
    {v : Value} (hc : ∀ w', Heap W l w' → w'.cell? ⟨b, off, none⟩ = some v)
    (h : wpQuiet Try.prog ops (fun w' => ∃ d, w' = H.any d) K rest (a.put dst v)) : wpQuiet Try.prog ops (fun w' => ∃ d, w' = H.any d) K (⟨dst, .load T x, ty, pos, after, guard⟩ :: rest) a := by
  refine BigFrame.wpQuiet_want hw fun K hK => ⟨v, ?_, hK _ h⟩
  rintro _ ⟨d, rfl⟩
  have hv := hc _ (H.any_heap d)
  simp only [World.cell?, if_true] at hv
  cases hb : (H.any d).heap[b]? with
  | none => rw [hb] at hv; cases hv
  | some o =>
    rw [hb] at hv
    cases o <;> first | (cases hv; done) | skip
    rename_i cs t f
    unfold Oper.quietAt execOp
    simp only [hx, Sem.run_bind, run_loadC CT hb hv]
    exact ⟨rfl, rfl⟩
end
section
variable {W w : World} {l : List Thing}
set_option maxRecDepth 100000
set_option maxHeartbeats 2000000
theorem same_no {A B : List Nat} (a b : Option Addr) (n m c d : Nat) (hA : A.length = n) (hB : B.length = m) (hn : n ≤ 1000000) (hm : m ≤ 1000000) (hne : n ≠ m) : AnsH W l 63 #[.slice a n c, .slice b m d] (.bool false) := by
  intro w H
  have e1 : ((n : Int) != (m : Int)) = true := by simp; omega
  have e2 : ((n : Int) == (m : Int)) = false := by simp; omega
  go_enter Try.func63, Try.ntmps63
  go_wp2_with (go_skip)
  go_ret
  exact ⟨rfl, H⟩
structure SameLoop (W : World) (l : List Thing) (A B : List Nat) (n : Nat) (vi : Value) (wr : World) : Prop where
  out : ∃ k : Nat, k ≤ n ∧ vi = .int .i64 (k : Int) ∧ A.take k = B.take k ∧ Heap W l wr
theorem same_P {A B : List Nat} (a b : Option Addr) (n c d : Nat) (hA : A.length = n) (hB : B.length = n) (hn : n ≤ 1000000) (hA8 : ∀ x ∈ A, x ≤ 255) (hB8 : ∀ x ∈ B, x ≤ 255) (RA : ∀ w', Heap W l w' → Rd w' a (A.map pv)) (RB : ∀ w', Heap W l w' → Rd w' b (B.map pv)) :
    AnsH W l 63 #[.slice a n c, .slice b n d] (.bool (decide (A = B))) := by
  intro w H
  have HA := Lib.hid hA
  have HB := Lib.hid hB
  have HRA := Lib.hid RA
  have HRB := Lib.hid RB
  clear hA hB RA RB hA8 hB8
  generalize hres : decide (A = B) = res
  have HRES := Lib.hid hres
  clear hres
  go_enter Try.func63, Try.ntmps63
  go_wp2_with (go_skip)
  have H0 := H
  clear H
  go_loopw [5] (fun vi wr => SameLoop W l A B n vi wr) (fun vi _ => n - (intOf vi).toNat)
  case atStart => exact ⟨0, Nat.zero_le _, rfl, rfl, H0⟩
  case round =>
    obtain ⟨k, hk, rfl, ht, H'⟩ := hrel.out
    clear H0 hrel
    have H := H'
    clear H'
    by_cases hlt : k < n
    · have hkA : k < A.length := by rw [HA.out]; exact hlt
      have hkB : k < B.length := by rw [HB.out]; exact hlt
      have hx : A[k]? = some A[k] := List.getElem?_eq_getElem hkA
      have hy : B[k]? = some B[k] := List.getElem?_eq_getElem hkB
      have HT := Lib.hid ht
      clear ht
      generalize A[k] = x at *
      generalize B[k] = y at *
      obtain ⟨ba, oa, rfl, _⟩ := (HRA.out _ H).lt (by rw [List.length_map]; omega)
      obtain ⟨bb, ob, rfl, _⟩ := (HRB.out _ H).lt (by rw [List.length_map]; omega)
      have hcx : ∀ w', Heap W l w' → w'.cell? ⟨ba, oa + k, none⟩ = some (.int .u8 (x : Int)) := fun w' h => rd_party (HRA.out w' h) hx
      have hcy : ∀ w', Heap W l w' → w'.cell? ⟨bb, ob + k, none⟩ = some (.int .u8 (y : Int)) := fun w' h => rd_party (HRB.out w' h) hy
      by_cases he : x = y
      · subst he
        have e1 : ((x : Int) != (x : Int)) = false := by simp
        have HS := Lib.hid (show A.take (k + 1) = B.take (k + 1) by rw [List.take_add_one, List.take_add_one, hx, hy, HT.out])
        clear hx hy
        go_wp2_with (go_skip)
        refine wp_region_H H (by kernel_rfl) (by kernel_rfl) ?_
        repeat (first | go_big_quiet_skip | (first | ((with_reducible apply wpQ_loadCell); (· exact cell_party); (· rfl); (· rfl); (· exact hcx); (simp only [Act.put, List.setIfInBounds_toArray, List.set_cons_zero, List.set_cons_succ])) | ((with_reducible apply wpQ_loadCell); (· exact cell_party); (· rfl); (· rfl); (· exact hcy); (simp only [Act.put, List.setIfInBounds_toArray, List.set_cons_zero, List.set_cons_succ]))) | go_big_quiet_step (fail))
        refine wpQuiet_nil ?_
        clear H
        intro _ H
        go_wp2_with (go_skip)
        refine ⟨⟨k + 1, by omega, by go_num, HS.out, H⟩, ?measure⟩
        case measure => simp [intOf]; omega
      · have e1 : ((x : Int) != (y : Int)) = true := by simp; omega
        have HN := Lib.hid (show A ≠ B from fun e => by subst e; rw [hx] at hy; exact he (Option.some.inj hy))
        clear hx hy he
        go_wp2_with (go_skip)
        refine wp_region_H H (by kernel_rfl) (by kernel_rfl) ?_
        repeat (first | go_big_quiet_skip | (first | ((with_reducible apply wpQ_loadCell); (· exact cell_party); (· rfl); (· rfl); (· exact hcx); (simp only [Act.put, List.setIfInBounds_toArray, List.set_cons_zero, List.set_cons_succ])) | ((with_reducible apply wpQ_loadCell); (· exact cell_party); (· rfl); (· rfl); (· exact hcy); (simp only [Act.put, List.setIfInBounds_toArray, List.set_cons_zero, List.set_cons_succ]))) | go_big_quiet_step (fail))
        refine wpQuiet_nil ?_
        clear H
        intro _ H
        go_wp2_with (go_skip)
        go_ret
        rw [← HRES.out, decide_eq_false HN.out]
        exact ⟨rfl, H⟩
    · obtain rfl : k = n := by omega
      have HE := Lib.hid (show A = B by
        have h := ht
        rw [List.take_of_length_le (by rw [HA.out]; exact Nat.le_refl _), List.take_of_length_le (by rw [HB.out]; exact Nat.le_refl _)] at h
        exact h)
      clear ht
      go_wp2_with (go_skip)
      go_ret
      rw [← HRES.out, decide_eq_true HE.out]
      exact ⟨rfl, H⟩
end
end Go.Proofs.Ytglehneaphigdaa

/- SameParties, over same. -/
namespace Go.Proofs.Ytglehneaphigdaa
open Go.RowKit
set_option linter.unusedSimpArgs false
set_option linter.unusedVariables false
section
variable {W w : World} {l : List Thing}
set_option maxRecDepth 100000
set_option maxHeartbeats 2000000
theorem sameParties_P {A B : List Nat} (a b : Option Addr) (n c d : Nat) (hA : A.length = n) (hB : B.length = n) (hn : n ≤ 1000000) (hA8 : ∀ x ∈ A, x ≤ 255) (hB8 : ∀ x ∈ B, x ≤ 255) (RA : ∀ w', Heap W l w' → Rd w' a (A.map pv)) (RB : ∀ w', Heap W l w' → Rd w' b (B.map pv)) :
    AnsH W l 37 #[.slice a n c, .slice b n d] (.bool (decide (A = B))) := by
  intro w H
  have S := same_P (W := W) (l := l) a b n c d hA hB hn hA8 hB8 RA RB
  clear RA RB
  generalize decide (A = B) = res at *
  go_enter Try.func37, Try.ntmps37
  go_wp2_with (first | go_skip | ((with_reducible refine AnsH.call (by assumption) H ?_); clear H; intro _ H))
  go_ret
  exact ⟨rfl, H⟩
end
end Go.Proofs.Ytglehneaphigdaa

/- countinghouselaw06.lives. -/
namespace Go.Proofs.Ytglehneaphigdaa
open Go.RowKit
set_option linter.unusedSimpArgs false
set_option linter.unusedVariables false
def l6 : List Flw := [⟨1, 2, 1⟩, ⟨2, 4, 1⟩, ⟨1, 3, 1⟩, ⟨3, 4, 1⟩, ⟨2, 3, 1⟩]
def c6 : Caps := upd2 (upd2 (upd2 (upd2 (upd2 zeroC 1 2 1) 2 4 1) 1 3 1) 3 4 1) 2 3 1
theorem new6 : newG l6 = some c6 := rfl
theorem round6a : roundOf ([⟨1, 2, 1⟩, ⟨2, 3, 1⟩, ⟨3, 1, -3⟩] : List Edg) = [1, 2, 3] := by decide +kernel
theorem round6b : roundOf ([⟨1, 2, 1⟩, ⟨2, 1, -1⟩] : List Edg) = [] := by decide +kernel
theorem round6c : roundOf ([⟨3, 3, -1⟩] : List Edg) = [3] := by decide +kernel
def d4 : Nat → Nat := fun p => if p = 4 then 0 else if p = 2 ∨ p = 3 then 1 else if p = 1 then 2 else 17
def d1 : Nat → Nat := fun p => if p = 1 then 0 else 17
theorem edges6 : ∀ p q : Fin 17, edge c6 p q = true → (p.val = 1 ∧ q.val = 2) ∨ (p.val = 2 ∧ q.val = 4) ∨ (p.val = 1 ∧ q.val = 3) ∨ (p.val = 3 ∧ q.val = 4) ∨ (p.val = 2 ∧ q.val = 3) := by decide +kernel
theorem edge6 {p q : Nat} (h : edge c6 p q = true) : (p = 1 ∧ q = 2) ∨ (p = 2 ∧ q = 4) ∨ (p = 1 ∧ q = 3) ∨ (p = 3 ∧ q = 4) ∨ (p = 2 ∧ q = 3) := by
  have hb := edge_le h
  exact edges6 ⟨p, by omega⟩ ⟨q, by omega⟩ h
theorem dist4 : IsDist (edge c6) 4 d4 := by
  refine ⟨rfl, fun p => ?_, fun p hp => ?_, fun p q h => ?_, fun p hp hne => ?_⟩
  · unfold d4; repeat' split
    all_goals omega
  · unfold d4 at *; repeat' split at hp
    all_goals (repeat' split) <;> omega
  · rcases edge6 h with ⟨rfl, rfl⟩ | ⟨rfl, rfl⟩ | ⟨rfl, rfl⟩ | ⟨rfl, rfl⟩ | ⟨rfl, rfl⟩ <;> decide
  · have : p = 1 ∨ p = 2 ∨ p = 3 := by
      unfold d4 at hp
      rw [if_neg hne] at hp
      split at hp
      · omega
      · split at hp <;> omega
    rcases this with rfl | rfl | rfl
    · exact ⟨2, by decide +kernel, rfl⟩
    · exact ⟨4, by decide +kernel, rfl⟩
    · exact ⟨4, by decide +kernel, rfl⟩
theorem dist1 : IsDist (edge c6) 1 d1 := by
  refine ⟨rfl, fun p => ?_, fun p hp => ?_, fun p q h => ?_, fun p hp hne => ?_⟩
  · unfold d1; split <;> omega
  · unfold d1 at *
    by_cases e : p = 1
    · subst e; exact ⟨by omega, by omega, by decide⟩
    · rw [if_neg e] at hp; omega
  · rcases edge6 h with ⟨rfl, rfl⟩ | ⟨rfl, rfl⟩ | ⟨rfl, rfl⟩ | ⟨rfl, rfl⟩ | ⟨rfl, rfl⟩ <;> decide
  · unfold d1 at hp; rw [if_neg hne] at hp; omega
theorem next12 : IsNext (edge c6) d4 1 2 := ⟨by omega, by omega, ⟨rfl, by decide +kernel⟩, fun q h1 h2 => by
  obtain rfl : q = 1 := by omega
  intro h; exact absurd h.1 (by decide)⟩
theorem next24 : IsNext (edge c6) d4 2 4 := ⟨by omega, by omega, ⟨rfl, by decide +kernel⟩, fun q h1 h2 h => by
  have := edge6 h.2
  have h3 : d4 q + 1 = d4 2 := h.1
  have : q = 3 ∨ q = 4 := by omega
  obtain rfl : q = 3 := by omega
  exact absurd h3 (by decide)⟩
theorem way6 : Way (edge c6) d4 1 4 [1, 2, 4] := ⟨rfl, rfl, rfl, fun i x y h1 h2 => by
  rcases i with _ | _ | i
  · simp at h1 h2; subst h1 h2; exact next12
  · simp at h1 h2; subst h1 h2; exact next24
  · simp at h2⟩
theorem short6 {L : List Nat} (h : IsShort c6 1 4 L) : L = [1, 2, 4] := by
  rcases h with ⟨_, h | h | h | ⟨d, hd, h⟩⟩ | ⟨_, _, _, d, hd, _, hw⟩
  · exact absurd h (by decide)
  · exact absurd h (by decide)
  · omega
  · rw [hd.eq dist4 1] at h; exact absurd h (by decide)
  · obtain rfl : d = d4 := funext (hd.eq dist4)
    exact hw.eq way6
theorem short6b {L : List Nat} (h : IsShort c6 4 1 L) : L = [] := by
  rcases h with ⟨h, _⟩ | ⟨_, _, _, d, hd, h, _⟩
  · exact h
  · rw [hd.eq dist1 4] at h; exact absurd h (by decide)
section
variable {W w : World} {l : List Thing}
set_option maxRecDepth 100000
set_option maxHeartbeats 2000000
theorem lives06_H (H : Heap W l w) : Calls Try.prog 35 #[] w fun e w' => e = .returned (.bool true) ∧ Heap W l w' := by
  go_enter Try.func35, Try.ntmps35
  go_wp2_with (go_skip)
  have C := new_H (some ⟨w.heap.size, 0, none⟩) 5 5 l6 rfl (by omega) (by intro x hx; simp [l6] at hx; rcases hx with rfl | rfl | rfl | rfl | rfl <;> (unfold FlwOk; simp)) (fun w' H' => H'.celRd List.mem_cons_self) (H.alloc #[.int .u8 1, .int .u8 2, .int .i64 1, .int .u8 2, .int .u8 4, .int .i64 1, .int .u8 1, .int .u8 3, .int .i64 1, .int .u8 3, .int .u8 4, .int .i64 1, .int .u8 2, .int .u8 3, .int .i64 1] 35)
  clear H
  refine C.mono ?_
  clear C
  rw [new6]
  rintro e w1 ⟨p, rfl, H⟩
  replace H := H.drop (.there .here)
  go_wp2_with (go_skip)
  have C := short_H 1 4 (by omega) (by omega) (CapsOf.gr (W := W) (p := p) (c := c6) List.mem_cons_self) H
  clear H
  refine C.mono ?_
  clear C
  rintro e w2 ⟨va, La, rfl, hs, H⟩
  obtain rfl := short6 hs
  clear hs
  go_wp2_with (go_skip)
  have C := round_H (some ⟨w2.heap.size, 0, none⟩) 3 3 [⟨1, 2, 1⟩, ⟨2, 3, 1⟩, ⟨3, 1, -3⟩] rfl (by omega) (by intro x hx; simp at hx; rcases hx with rfl | rfl | rfl <;> (unfold EdgOk; simp)) (fun w' H' => H'.celRd List.mem_cons_self) (H.alloc #[.int .u8 1, .int .u8 2, .int .i8 (1), .int .u8 2, .int .u8 3, .int .i8 (1), .int .u8 3, .int .u8 1, .int .i8 (-3)] 64)
  clear H
  refine C.mono ?_
  clear C
  rw [show ([⟨1, 2, 1⟩, ⟨2, 3, 1⟩, ⟨3, 1, -3⟩] : List Edg).filter keepE = [⟨1, 2, 1⟩, ⟨2, 3, 1⟩, ⟨3, 1, -3⟩] from by rfl]
  rintro e w3 ⟨vb, rfl, H⟩
  rw [round6a] at H
  replace H := H.drop (.there .here)
  go_wp2_with (go_skip)
  have C := round_H (some ⟨w3.heap.size, 0, none⟩) 2 2 [⟨1, 2, 1⟩, ⟨2, 1, -1⟩] rfl (by omega) (by intro x hx; simp at hx; rcases hx with rfl | rfl <;> (unfold EdgOk; simp)) (fun w' H' => H'.celRd List.mem_cons_self) (H.alloc #[.int .u8 1, .int .u8 2, .int .i8 (1), .int .u8 2, .int .u8 1, .int .i8 (-1)] 64)
  clear H
  refine C.mono ?_
  clear C
  rw [show ([⟨1, 2, 1⟩, ⟨2, 1, -1⟩] : List Edg).filter keepE = [⟨1, 2, 1⟩, ⟨2, 1, -1⟩] from by rfl]
  rintro e w4 ⟨vc, rfl, H⟩
  rw [round6b] at H
  replace H := H.drop (.there .here)
  go_wp2_with (go_skip)
  have C := round_H (some ⟨w4.heap.size, 0, none⟩) 1 1 [⟨3, 3, -1⟩] rfl (by omega) (by intro x hx; simp at hx; rcases hx with rfl <;> (unfold EdgOk; simp)) (fun w' H' => H'.celRd List.mem_cons_self) (H.alloc #[.int .u8 3, .int .u8 3, .int .i8 (-1)] 64)
  clear H
  refine C.mono ?_
  clear C
  rw [show ([⟨3, 3, -1⟩] : List Edg).filter keepE = [⟨3, 3, -1⟩] from by rfl]
  rintro e w5 ⟨vd, rfl, H⟩
  rw [round6c] at H
  replace H := H.drop (.there .here)
  go_wp2_with (go_skip)
  obtain ⟨aa, ca, rfl⟩ := OwnT.form0 (H.ok _ (List.mem_cons_of_mem _ (List.mem_cons_of_mem _ (List.mem_cons_of_mem _ List.mem_cons_self))))
  have S := sameParties_P (W := W) (l := Cel w5.heap.size #[.int .u8 1, .int .u8 2, .int .u8 4] 33 :: OwnT 33 1 vd [3].length ([3].map pv) :: OwnT 33 1 vc ([] : List Nat).length (([] : List Nat).map pv) :: OwnT 33 1 vb [1, 2, 3].length ([1, 2, 3].map pv) :: OwnT 33 1 (.slice aa 3 ca) [1, 2, 4].length ([1, 2, 4].map pv) :: Gr p c6 :: l) (A := [1, 2, 4]) (B := [1, 2, 4]) aa (some ⟨w5.heap.size, 0, none⟩) 3 ca 3 rfl rfl (by omega) (by simp) (by simp) (fun w' h => h.ownRd (List.mem_cons_of_mem _ (List.mem_cons_of_mem _ (List.mem_cons_of_mem _ (List.mem_cons_of_mem _ List.mem_cons_self))))) (fun w' h => h.celRd List.mem_cons_self)
  refine (S _ (H.alloc _ _)).mono ?_
  clear H S
  rintro e w6 ⟨rfl, H⟩
  replace H := H.tail
  go_wp2_with (go_skip)
  have C := short_H 4 1 (by omega) (by omega) (CapsOf.gr (W := W) (p := p) (c := c6) (List.mem_cons_of_mem _ (List.mem_cons_of_mem _ (List.mem_cons_of_mem _ (List.mem_cons_of_mem _ List.mem_cons_self))))) H
  clear H
  refine C.mono ?_
  clear C
  rintro e w7 ⟨ve, Le, rfl, hs, H⟩
  obtain rfl := short6b hs
  clear hs
  obtain ⟨ae, ce, rfl⟩ := OwnT.form0 (H.ok _ List.mem_cons_self)
  replace H := H.tail
  obtain ⟨ab, cb, rfl⟩ := OwnT.form0 (H.ok _ (List.mem_cons_of_mem _ (List.mem_cons_of_mem _ List.mem_cons_self)))
  obtain ⟨ac, cc, rfl⟩ := OwnT.form0 (H.ok _ (List.mem_cons_of_mem _ List.mem_cons_self))
  obtain ⟨ad, cd, rfl⟩ := OwnT.form0 (H.ok _ List.mem_cons_self)
  go_wp2_with (go_skip)
  have S := sameParties_P (W := W) (l := Cel w7.heap.size #[.int .u8 1, .int .u8 2, .int .u8 3] 33 :: OwnT 33 1 (.slice ad [3].length cd) [3].length ([3].map pv) :: OwnT 33 1 (.slice ac ([] : List Nat).length cc) ([] : List Nat).length (([] : List Nat).map pv) :: OwnT 33 1 (.slice ab [1, 2, 3].length cb) [1, 2, 3].length ([1, 2, 3].map pv) :: OwnT 33 1 (.slice aa 3 ca) [1, 2, 4].length ([1, 2, 4].map pv) :: Gr p c6 :: l) (A := [1, 2, 3]) (B := [1, 2, 3]) ab (some ⟨w7.heap.size, 0, none⟩) 3 cb 3 rfl rfl (by omega) (by simp) (by simp) (fun w' h => h.ownRd (List.mem_cons_of_mem _ (List.mem_cons_of_mem _ (List.mem_cons_of_mem _ List.mem_cons_self)))) (fun w' h => h.celRd List.mem_cons_self)
  refine (S _ (H.alloc _ _)).mono ?_
  clear H S
  rintro e w8 ⟨rfl, H⟩
  replace H := H.tail
  go_wp2_with (go_skip)
  have S := sameParties_P (W := W) (l := Cel w8.heap.size #[.int .u8 3] 33 :: OwnT 33 1 (.slice ad [3].length cd) [3].length ([3].map pv) :: OwnT 33 1 (.slice ac ([] : List Nat).length cc) ([] : List Nat).length (([] : List Nat).map pv) :: OwnT 33 1 (.slice ab [1, 2, 3].length cb) [1, 2, 3].length ([1, 2, 3].map pv) :: OwnT 33 1 (.slice aa 3 ca) [1, 2, 4].length ([1, 2, 4].map pv) :: Gr p c6 :: l) (A := [3]) (B := [3]) ad (some ⟨w8.heap.size, 0, none⟩) 1 cd 1 rfl rfl (by omega) (by simp) (by simp) (fun w' h => h.ownRd (List.mem_cons_of_mem _ List.mem_cons_self)) (fun w' h => h.celRd List.mem_cons_self)
  refine (S _ (H.alloc _ _)).mono ?_
  clear H S
  rintro e w9 ⟨rfl, H⟩
  replace H := H.tail.tail.tail.tail.tail.tail
  go_wp2_with (go_skip)
  go_ret
  exact ⟨rfl, H⟩
end
end Go.Proofs.Ytglehneaphigdaa
