/- PathsShort: its walk. -/
import Derived.Test.YtglehneaphigdaaRef06s
import Derived.Test.YtglehneaphigdaaSameF
import Derived.Test.YtglehneaphigdaaLives06
import Derived.Test.YtglehneaphigdaaBkPa
import Derived.Test.YtglehneaphigdaaLawPathsLeast3
namespace Go.Proofs.Ytglehneaphigdaa
open Go.RowKit
set_option linter.unusedSimpArgs false
set_option linter.unusedVariables false
theorem keeps_cons {base l : List Thing} {x : Thing} (h : Keeps base l) : Keeps (x :: base) (x :: l) := fun t ht => by
  rcases List.mem_cons.1 ht with rfl | ht
  · exact List.mem_cons_self
  · exact List.mem_cons_of_mem _ (h t ht)
section
variable {W w : World} {l : List Thing}
set_option maxRecDepth 100000
set_option maxHeartbeats 4000000
theorem pshort_many (a : Option Addr) (n c f t : Nat) (h : 300 < n) (hn : n ≤ 9223372036854775807) (H : Heap W l w) : Calls Try.prog 10 #[.slice a n c, .int .u8 (f : Int), .int .u8 (t : Int)] w fun e w' => e = .returned (.bool true) ∧ Heap W l w' := by
  have L := fun (V : World) (H : Heap W l V) => lives06_H (W := W) (l := l) (w := V) H
  go_enter Try.func10, Try.ntmps10
  go_wp2_with (first | go_skip | ((with_reducible refine (L _ H).mono ?_); clear H; rintro _ _ ⟨rfl, H⟩))
  go_ret
  exact ⟨rfl, H⟩
theorem pshort_none (a : Option Addr) (n c0 f t : Nat) (F : List Flw) (h : n ≤ 300) (hl : F.length = n) (hF : ∀ x ∈ F, FlwOk x) (hf : f ≤ 255) (ht : t ≤ 255) (R : ∀ l' w', (∀ x ∈ l, x ∈ l') → Heap W l' w' → Rd w' a (flwL F)) (hG : newG F = none) (H : Heap W l w) : Calls Try.prog 10 #[.slice a n c0, .int .u8 (f : Int), .int .u8 (t : Int)] w fun e w' => e = .returned (.bool true) ∧ Heap W l w' := by
  have L := fun (V : World) (H : Heap W l V) => lives06_H (W := W) (l := l) (w := V) H
  have N := new_H (W := W) (l := l) (w := w) a n c0 F hl (by omega) hF (fun w' h => R l w' (fun _ h => h) h) H
  rw [hG] at N
  have N2 := fun (V : World) (H : Heap W l V) => rnew_H (W := W) (l := l) (w := V) a n c0 F hl (by omega) hF R H
  have S := fun (V : World) (H : Heap W l V) => short_H (W := W) (l := l) (w := V) (gv := .pointer none) f t hf ht CapsOf.nil H
  have HG := Lib.hid hG
  clear hl hF R hG H
  go_enter Try.func10, Try.ntmps10
  go_wp2_with (first | go_skip | ((with_reducible refine N.mono ?_); clear N; rintro _ _ ⟨rfl, H⟩))
  refine (N2 _ H).mono ?_
  clear H N2
  rintro e w2 (⟨_, rfl, H⟩ | ⟨c, p, hc, _⟩)
  · go_wp2_with (go_skip)
    refine (S _ H).mono ?_
    clear H S
    rintro e w2 ⟨v, La, rfl, hs, H⟩
    obtain rfl := short_zero hs
    clear hs
    obtain ⟨av, cv, rfl⟩ := OwnT.form0 (H.ok _ List.mem_cons_self)
    replace H := H.tail
    go_wp2_with (first | go_skip | ((with_reducible refine (L _ H).mono ?_); clear H; rintro _ _ ⟨rfl, H⟩))
    go_ret
    exact ⟨rfl, H⟩
  · rw [HG.out] at hc; cases hc
theorem pshort_some (a : Option Addr) (n c0 f t : Nat) (F : List Flw) (c : Caps) (h : n ≤ 300) (hl : F.length = n) (hF : ∀ x ∈ F, FlwOk x) (hf : f ≤ 255) (ht : t ≤ 255) (R : ∀ l' w', (∀ x ∈ l, x ∈ l') → Heap W l' w' → Rd w' a (flwL F)) (hG : newG F = some c) (H : Heap W l w) : Calls Try.prog 10 #[.slice a n c0, .int .u8 (f : Int), .int .u8 (t : Int)] w fun e w' => e = .returned (.bool true) ∧ Heap W l w' := by
  have L := fun (l : List Thing) (V : World) (H : Heap W l V) => lives06_H (W := W) (l := l) (w := V) H
  have N := new_H (W := W) (l := l) (w := w) a n c0 F hl (by omega) hF (fun w' h => R l w' (fun _ h => h) h) H
  rw [hG] at N
  have N2 := fun (x : Thing) (V : World) (H : Heap W (x :: l) V) => rnew_H (W := W) (l := x :: l) (w := V) a n c0 F hl (by omega) hF (fun l' w' hs h => R l' w' (fun y hy => hs y (List.mem_cons_of_mem _ hy)) h) H
  have S := fun (l : List Thing) (p : Nat) (m : Gr p c ∈ l) (V : World) (H : Heap W l V) => short_H (W := W) (l := l) (w := V) (gv := .pointer (some ⟨p, 0, none⟩)) f t hf ht (CapsOf.gr m) H
  have HG := Lib.hid hG
  clear hl hF R hG H
  go_enter Try.func10, Try.ntmps10
  go_wp2_with (first | go_skip | ((with_reducible refine N.mono ?_); clear N; rintro _ _ ⟨p, rfl, H⟩))
  refine (N2 _ _ H).mono ?_
  clear H N2
  rintro e w2 (⟨hno, _⟩ | ⟨c', q, hc, rfl, hgc, hbc, ra, rcc, H⟩)
  · rw [HG.out] at hno; cases hno
  · obtain rfl : c = c' := by rw [HG.out] at hc; exact Option.some.inj hc
    obtain ⟨NE, hNE⟩ : ∃ NE, (edgesOf c).length = NE := ⟨_, rfl⟩
    have hlen := edges_len c
    rw [hNE] at H hlen
    have HNE := Lib.hid hNE
    have HGB := Lib.hid (And.intro hgc hbc)
    clear hc hNE hgc hbc
    go_wp2_with (go_skip)
    refine (S _ p (by (repeat (first | (with_reducible exact List.mem_cons_self) | with_reducible apply List.mem_cons_of_mem))) _ H).mono ?_
    clear H
    rintro e w3 ⟨va, La, rfl, hsa, H⟩
    have hle := hsa.le
    obtain ⟨ln, hln⟩ : ∃ ln, La.length = ln := ⟨_, rfl⟩
    rw [hln] at H hle
    obtain ⟨aa, ca, rfl⟩ := OwnT.form0 (H.ok _ List.mem_cons_self)
    have HL := Lib.hid (And.intro hln (And.intro (fun x hx => Nat.le_trans (hle.2 x hx) (by omega : 16 ≤ 255)) hsa))
    have hln16 := hle.1
    clear hsa hle hln
    go_wp2_with (go_skip)
    refine (S _ p (by (repeat (first | (with_reducible exact List.mem_cons_self) | with_reducible apply List.mem_cons_of_mem))) _ H).mono ?_
    clear H S
    rintro e w4 ⟨vb, Lb, rfl, hsb, H⟩
    obtain rfl := HL.out.2.2.eq hsb
    rw [HL.out.1] at H
    obtain ⟨ab, cb, rfl⟩ := OwnT.form0 (H.ok _ List.mem_cons_self)
    clear hsb
    have SP := Lib.hid (show ∀ (l0 : List Thing) (ax ay : Option Addr) (cx cy : Nat), OwnT 33 1 (.slice ax ln cx) ln (La.map pv) ∈ l0 → OwnT 33 1 (.slice ay ln cy) ln (La.map pv) ∈ l0 → AnsH W l0 37 #[.slice ax ln cx, .slice ay ln cy] (.bool true) from fun l0 ax ay cx cy mx my => by
      have := sameParties_P (W := W) (l := l0) (A := La) (B := La) ax ay ln cx cy HL.out.1 HL.out.1 (by omega) HL.out.2.1 HL.out.2.1 (fun w' h => h.ownRd mx) (fun w' h => h.ownRd my)
      rwa [decide_eq_true rfl] at this)
    have RS := Lib.hid (show ∀ (l0 : List Thing) (w' : World), RgT q (.slice ra NE rcc) ∈ l0 → FlT (.slice ra NE rcc) NE (edgesOf c) ∈ l0 → Heap W l0 w' → Calls Try.prog 41 #[.pointer (some ⟨q, 0, none⟩), .int .u8 (f : Int), .int .u8 (t : Int)] w' (ShortPost W l0 c f t) from fun l0 w' m1 m2 h => by
      rw [← HNE.out] at m1 m2
      exact rshort_H c f t hf ht HGB.out.1 HGB.out.2 m1 m2 h)
    go_wp2_with (go_skip)
    refine wp_region_K0 [4, 15] [0, 1, 2, 3, 4, 5, 6, 7, 8, 9, 10, 11, 12, 13, 14, 16, 17, 18, 19, 15, 20, 21, 22] H (by kernel_rfl) (by kernel_rfl) ?_
    iterate 4 (apply wpK_step; (· rfl); (· rfl); (· rfl); (· exact Nat.le_of_ble_eq_true rfl); (· intro l0 hs0 w0 H0; (first | go_big_quiet_skip | fail | go_big_quiet_step (fail)); (refine wpQuiet_nil ?_); (simp only [Array.getD_eq_getD_getElem?, List.getElem?_toArray, List.getElem?_cons_succ, List.getElem?_cons_zero, Option.getD_some]; rfl)); (simp only [Act.put, List.setIfInBounds_toArray, List.set_cons_zero, List.set_cons_succ]))
    refine wpK_call (f := 41) (argl := [.pointer (some ⟨q, 0, none⟩), .int .u8 (f : Int), .int .u8 (t : Int)]) rfl rfl rfl Try.call41 rfl ?_
    intro w0 H0
    refine (RS.out _ _ (by (repeat (first | (with_reducible exact List.mem_cons_self) | with_reducible apply List.mem_cons_of_mem))) (by (repeat (first | (with_reducible exact List.mem_cons_self) | with_reducible apply List.mem_cons_of_mem))) H0).mono ?_
    clear H0
    rintro e w5 ⟨vc, Lc, rfl, hsc, H1⟩
    obtain rfl := HL.out.2.2.eq hsc
    rw [HL.out.1] at H1
    obtain ⟨ac, cc, rfl⟩ := OwnT.form0 (H1.ok _ List.mem_cons_self)
    refine ⟨_, _, rfl, H1, _, fun t ht => List.mem_cons_of_mem _ ht, Keeps.refl _, ?_⟩
    clear H1 hsc
    (simp only [Act.put, List.setIfInBounds_toArray, List.set_cons_zero, List.set_cons_succ])
    (apply wpK_step; (· rfl); (· rfl); (· rfl); (· exact Nat.le_of_ble_eq_true rfl); (· intro l0 hs0 w0 H0; (first | go_big_quiet_skip | fail | go_big_quiet_step (exact (SP.out l0 aa ac ca cc (hs0 _ (by (repeat (first | (with_reducible exact List.mem_cons_self) | with_reducible apply List.mem_cons_of_mem)))) (hs0 _ (by (repeat (first | (with_reducible exact List.mem_cons_self) | with_reducible apply List.mem_cons_of_mem))))).quiet)); (refine wpQuiet_nil ?_); (simp only [Array.getD_eq_getD_getElem?, List.getElem?_toArray, List.getElem?_cons_succ, List.getElem?_cons_zero, Option.getD_some]; rfl)); (simp only [Act.put, List.setIfInBounds_toArray, List.set_cons_zero, List.set_cons_succ]))
    iterate 4 (apply wpK_step; (· rfl); (· rfl); (· rfl); (· exact Nat.le_of_ble_eq_true rfl); (· intro l0 hs0 w0 H0; (first | go_big_quiet_skip | fail | go_big_quiet_step (fail)); (refine wpQuiet_nil ?_); (simp only [Array.getD_eq_getD_getElem?, List.getElem?_toArray, List.getElem?_cons_succ, List.getElem?_cons_zero, Option.getD_some]; rfl)); (simp only [Act.put, List.setIfInBounds_toArray, List.set_cons_zero, List.set_cons_succ]))
    (apply wpK_step; (· rfl); (· rfl); (· rfl); (· exact Nat.le_of_ble_eq_true rfl); (· intro l0 hs0 w0 H0; (first | go_big_quiet_skip | fail | go_big_quiet_step (exact (SP.out l0 aa ab ca cb (hs0 _ (by (repeat (first | (with_reducible exact List.mem_cons_self) | with_reducible apply List.mem_cons_of_mem)))) (hs0 _ (by (repeat (first | (with_reducible exact List.mem_cons_self) | with_reducible apply List.mem_cons_of_mem))))).quiet)); (refine wpQuiet_nil ?_); (simp only [Array.getD_eq_getD_getElem?, List.getElem?_toArray, List.getElem?_cons_succ, List.getElem?_cons_zero, Option.getD_some]; rfl)); (simp only [Act.put, List.setIfInBounds_toArray, List.set_cons_zero, List.set_cons_succ]))
    iterate 7 (apply wpK_step; (· rfl); (· rfl); (· rfl); (· exact Nat.le_of_ble_eq_true rfl); (· intro l0 hs0 w0 H0; (first | go_big_quiet_skip | fail | go_big_quiet_step (fail)); (refine wpQuiet_nil ?_); (simp only [Array.getD_eq_getD_getElem?, List.getElem?_toArray, List.getElem?_cons_succ, List.getElem?_cons_zero, Option.getD_some]; rfl)); (simp only [Act.put, List.setIfInBounds_toArray, List.set_cons_zero, List.set_cons_succ]))
    (apply wpK_step; (· rfl); (· rfl); (· rfl); (· exact Nat.le_of_ble_eq_true rfl); (· intro l0 hs0 w0 H0; (first | go_big_quiet_skip | ((with_reducible apply wpQ_loadCH); (· exact cell_flows); (· rfl); (· rfl); (· exact hs0 _ (by (repeat (first | (with_reducible exact List.mem_cons_self) | with_reducible apply List.mem_cons_of_mem)))); (· exact rgC_g _); (simp only [Act.put, List.setIfInBounds_toArray, List.set_cons_zero, List.set_cons_succ])) | go_big_quiet_step (fail)); (refine wpQuiet_nil ?_); (simp only [Array.getD_eq_getD_getElem?, List.getElem?_toArray, List.getElem?_cons_succ, List.getElem?_cons_zero, Option.getD_some]; rfl)); (simp only [Act.put, List.setIfInBounds_toArray, List.set_cons_zero, List.set_cons_succ]))
    refine wpK_call (f := 24) (argl := [.pointer (some ⟨p, 0, none⟩)]) rfl rfl rfl Try.call24 rfl ?_
    intro w0 H0
    refine (edges_H (p := p) (c := c) H0 (by (repeat (first | (with_reducible exact List.mem_cons_self) | with_reducible apply List.mem_cons_of_mem)))).mono ?_
    clear H0
    rw [HNE.out]
    rintro e w6 (⟨hz, rfl, H1⟩ | ⟨hz, ge, ce, rfl, hce, H1⟩)
    · have SF := Lib.hid (show ∀ (l0 : List Thing), FlT (.slice ra NE rcc) NE (edgesOf c) ∈ l0 → AnsH W l0 23 #[.slice none 0 0, .slice ra NE rcc] (.bool true) from fun l0 my => by
        have e0 : edgesOf c = [] := List.eq_nil_of_length_eq_zero (by rw [HNE.out]; exact hz)
        have := sameFlows_P (W := W) (l := l0) (A := []) (B := edgesOf c) none ra 0 NE 0 rcc rfl HNE.out (by omega) (by omega) (fun w' h => Rd.nil _ _) (fun w' h => h.rowRd my)
        rwa [e0, decide_eq_true rfl] at this)
      refine ⟨_, _, rfl, H1, _, Keeps.refl _, Keeps.refl _, ?_⟩
      clear H1 hz
      (simp only [Act.put, List.setIfInBounds_toArray, List.set_cons_zero, List.set_cons_succ])
      (apply wpK_step; (· rfl); (· rfl); (· rfl); (· exact Nat.le_of_ble_eq_true rfl); (· intro l0 hs0 w0 H0; (first | go_big_quiet_skip | fail | go_big_quiet_step (exact (SF.out l0 (hs0 _ (by (repeat (first | (with_reducible exact List.mem_cons_self) | with_reducible apply List.mem_cons_of_mem))))).quiet)); (refine wpQuiet_nil ?_); (simp only [Array.getD_eq_getD_getElem?, List.getElem?_toArray, List.getElem?_cons_succ, List.getElem?_cons_zero, Option.getD_some]; rfl)); (simp only [Act.put, List.setIfInBounds_toArray, List.set_cons_zero, List.set_cons_succ]))
      iterate 2 (apply wpK_step; (· rfl); (· rfl); (· rfl); (· exact Nat.le_of_ble_eq_true rfl); (· intro l0 hs0 w0 H0; (first | go_big_quiet_skip | fail | go_big_quiet_step (fail)); (refine wpQuiet_nil ?_); (simp only [Array.getD_eq_getD_getElem?, List.getElem?_toArray, List.getElem?_cons_succ, List.getElem?_cons_zero, Option.getD_some]; rfl)); (simp only [Act.put, List.setIfInBounds_toArray, List.set_cons_zero, List.set_cons_succ]))
      (refine wpK_nil ?_; clear H; intro _ H)
      skip
      replace H := H.tail
      go_wp2_with (first
        | go_skip
        | ((with_reducible show wpList _ _ _ (_ :: _) _ _); (with_reducible apply wpl_allocRH row_book); (· rfl); (· exact H); (clear H; intro kb _ H); (simp only [Act.put, List.setIfInBounds_toArray, List.set_cons_zero, List.set_cons_succ]))
        | ((with_reducible show wpList _ _ _ (_ :: _) _ _); (with_reducible apply wpl_storeRH row_book); (· rfl); (· rfl); (· rfl); (· with_reducible exact bookC_cells); (· exact H); (· (repeat (first | (with_reducible exact List.mem_cons_self) | with_reducible apply List.mem_cons_of_mem))); (· (simp only [bookC_sz, Nat.reduceAdd, Nat.reduceLeDiff, Nat.le_refl]; done)); (· with_reducible exact bookC_splice ..); (· (repeat (first | (with_reducible exact Repl.here) | with_reducible apply Repl.there))); (clear H; intro _ H); (simp only [Act.put, List.setIfInBounds_toArray, List.set_cons_zero, List.set_cons_succ])))
      have B := Book.new (H.perm (.cons _ (.swap _ _ _)))
      clear H
      refine (lay_Pa kb [] aa ln ca (by decide) B).mono ?_
      clear B
      rintro e w5 ⟨rfl, p1, B⟩
      go_wp2_with (go_skip)
      refine (lay_Pa kb _ ab ln cb (by simp) B).mono ?_
      clear B
      rintro e w6 ⟨rfl, p2, B⟩
      go_wp2_with (go_skip)
      refine (B.apart (by simp)).mono ?_
      clear B
      rintro e w7 ⟨rfl, H⟩
      go_wp2_with (first | go_skip | ((with_reducible refine (L _ _ H).mono ?_); clear H; rintro _ _ ⟨rfl, H⟩))
      go_ret
      exact ⟨rfl, H.tail.tail.tail⟩
    · have SF := Lib.hid (show ∀ (l0 : List Thing) (ge ce : Nat), FlT (.slice ra NE rcc) NE (edgesOf c) ∈ l0 → Sl ge 35 3 NE ce (flwL (edgesOf c)) ∈ l0 → AnsH W l0 23 #[.slice (some ⟨ge, 0, none⟩) NE NE, .slice ra NE rcc] (.bool true) from fun l0 ge ce my mx => by
        have := sameFlows_P (W := W) (l := l0) (A := edgesOf c) (B := edgesOf c) (some ⟨ge, 0, none⟩) ra NE NE NE rcc HNE.out HNE.out (by omega) (by omega) (fun w' h => h.slRd mx) (fun w' h => h.rowRd my)
        rwa [decide_eq_true rfl] at this)
      refine ⟨_, _, rfl, H1, _, fun t ht => List.mem_cons_of_mem _ ht, Keeps.refl _, ?_⟩
      clear H1 hz
      (simp only [Act.put, List.setIfInBounds_toArray, List.set_cons_zero, List.set_cons_succ])
      (apply wpK_step; (· rfl); (· rfl); (· rfl); (· exact Nat.le_of_ble_eq_true rfl); (· intro l0 hs0 w0 H0; (first | go_big_quiet_skip | fail | go_big_quiet_step (exact (SF.out l0 ge ce (hs0 _ (by (repeat (first | (with_reducible exact List.mem_cons_self) | with_reducible apply List.mem_cons_of_mem)))) (hs0 _ (by (repeat (first | (with_reducible exact List.mem_cons_self) | with_reducible apply List.mem_cons_of_mem))))).quiet)); (refine wpQuiet_nil ?_); (simp only [Array.getD_eq_getD_getElem?, List.getElem?_toArray, List.getElem?_cons_succ, List.getElem?_cons_zero, Option.getD_some]; rfl)); (simp only [Act.put, List.setIfInBounds_toArray, List.set_cons_zero, List.set_cons_succ]))
      iterate 2 (apply wpK_step; (· rfl); (· rfl); (· rfl); (· exact Nat.le_of_ble_eq_true rfl); (· intro l0 hs0 w0 H0; (first | go_big_quiet_skip | fail | go_big_quiet_step (fail)); (refine wpQuiet_nil ?_); (simp only [Array.getD_eq_getD_getElem?, List.getElem?_toArray, List.getElem?_cons_succ, List.getElem?_cons_zero, Option.getD_some]; rfl)); (simp only [Act.put, List.setIfInBounds_toArray, List.set_cons_zero, List.set_cons_succ]))
      (refine wpK_nil ?_; clear H; intro _ H)
      replace H := H.tail
      replace H := H.tail
      go_wp2_with (first
        | go_skip
        | ((with_reducible show wpList _ _ _ (_ :: _) _ _); (with_reducible apply wpl_allocRH row_book); (· rfl); (· exact H); (clear H; intro kb _ H); (simp only [Act.put, List.setIfInBounds_toArray, List.set_cons_zero, List.set_cons_succ]))
        | ((with_reducible show wpList _ _ _ (_ :: _) _ _); (with_reducible apply wpl_storeRH row_book); (· rfl); (· rfl); (· rfl); (· with_reducible exact bookC_cells); (· exact H); (· (repeat (first | (with_reducible exact List.mem_cons_self) | with_reducible apply List.mem_cons_of_mem))); (· (simp only [bookC_sz, Nat.reduceAdd, Nat.reduceLeDiff, Nat.le_refl]; done)); (· with_reducible exact bookC_splice ..); (· (repeat (first | (with_reducible exact Repl.here) | with_reducible apply Repl.there))); (clear H; intro _ H); (simp only [Act.put, List.setIfInBounds_toArray, List.set_cons_zero, List.set_cons_succ])))
      have B := Book.new (H.perm (.cons _ (.swap _ _ _)))
      clear H
      refine (lay_Pa kb [] aa ln ca (by decide) B).mono ?_
      clear B
      rintro e w5 ⟨rfl, p1, B⟩
      go_wp2_with (go_skip)
      refine (lay_Pa kb _ ab ln cb (by simp) B).mono ?_
      clear B
      rintro e w6 ⟨rfl, p2, B⟩
      go_wp2_with (go_skip)
      refine (B.apart (by simp)).mono ?_
      clear B
      rintro e w7 ⟨rfl, H⟩
      go_wp2_with (first | go_skip | ((with_reducible refine (L _ _ H).mono ?_); clear H; rintro _ _ ⟨rfl, H⟩))
      go_ret
      exact ⟨rfl, H.tail.tail.tail⟩
end
end Go.Proofs.Ytglehneaphigdaa
