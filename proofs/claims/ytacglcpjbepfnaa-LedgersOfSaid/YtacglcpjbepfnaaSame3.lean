/- countinghouselaw03.Same: of a ledger and the reference's. -/
import Derived.Test.YtacglcpjbepfnaaRefLed
import Derived.Test.YtacglcpjbepfnaaLed11
namespace Go.Proofs.Ytacglcpjbepfnaa
open Go.RowKit
set_option linter.unusedSimpArgs false
set_option linter.unusedVariables false
theorem Pull.mem {l r : List Thing} {x : Thing} (h : Pull l x r) : x ∈ l := h.perm.mem_iff.2 List.mem_cons_self
section
variable {W w : World} {l r s : List Thing} {p q rp : Nat} {S : Lgr}
set_option maxRecDepth 100000
set_option maxHeartbeats 8000000
theorem lparM (G : S.Good) (H : Heap W l w) (hm : LdC p S.P (some q) ∈ l) : Calls Try.prog 43 #[.pointer (some ⟨p, 0, none⟩)] w fun e w' => ∃ a cc, e = .returned (.slice a S.P.length S.P.length) ∧ Heap W (RowT 23 1 (.slice a S.P.length cc) S.P.length (pI S.P) :: l) w' := by
  refine (lparties_H (p := p) (q := q) G.par G.par1 H hm).mono ?_
  rintro e w' (⟨h0, rfl, H⟩ | ⟨_, g, cc, rfl, _, H⟩)
  · refine ⟨none, 0, by rw [h0], ?_⟩
    have := H.nilRow 23 1
    rw [h0, List.eq_nil_of_length_eq_zero h0]
    exact this
  · exact ⟨_, _, rfl, H⟩
theorem llinesM (G : S.Good) (h1 : Pull l (LdC p S.P (some q)) r) (h2 : Pull r (LdM q S.L) s) (H : Heap W l w) : Calls Try.prog 21 #[.pointer (some ⟨p, 0, none⟩)] w fun e w' => ∃ g c, e = .returned (.slice (some ⟨g, 0, none⟩) S.L.length c) ∧ S.L.length ≤ c ∧ c ≤ maxLen ∧ Heap W (RowT 39 5 (.slice (some ⟨g, 0, none⟩) S.L.length c) S.L.length (linL S.L) :: l) w' := by
  refine (llines_H G (H.top2 h1 h2)).mono ?_
  rintro e w' ⟨g, c, rfl, h3, h4, H⟩
  exact ⟨g, c, rfl, h3, h4, H.perm (.cons _ (h1.perm.trans (h2.perm.cons _)).symm)⟩
theorem sameLed_A (G : S.Good) (h1 : Pull l (LdC p S.P (some q)) r) (h2 : Pull r (LdM q S.L) s) (M : RefM l rp S) : AnsH W l 30 #[.pointer (some ⟨p, 0, none⟩), .pointer (some ⟨rp, 0, none⟩)] (.bool true) := by
  intro w H
  obtain ⟨a, n, c, b, m, d, e1, e2, m1, m2, m3⟩ := M
  have hn := G.few16
  have hm := G.few
  have HM := Lib.hid (And.intro m1 (And.intro m2 m3))
  have PA := Lib.hid (fun (w' : World) (h : Heap W l w') => lparM G h h1.mem)
  have LI := Lib.hid (fun (x : Thing) (w' : World) (h : Heap W (x :: l) w') => llinesM (W := W) G (.there h1) (.there h2) h)
  rw [e1] at PA
  rw [e2] at LI
  have SP := Lib.hid (fun (l' : List Thing) (a2 : Option Addr) (k2 : Nat) (x1 : RowT 23 1 (.slice a2 n k2) n (pI S.P) ∈ l') (x2 : RowT 23 1 (.slice a n c) n (pI S.P) ∈ l') => sameParties_Q (W := W) (l := l') a2 a n n n c e1 e1 (by omega) (by omega) (fun w' H' => H'.rowRd x1) (fun w' H' => H'.rowRd x2))
  have SL := Lib.hid (fun (l' : List Thing) (a2 : Option Addr) (k2 : Nat) (x1 : RowT 39 5 (.slice a2 m k2) m (linL S.L) ∈ l') (x2 : RowT 39 5 (.slice b m d) m (linL S.L) ∈ l') => sameLines_P (W := W) (l := l') a2 b m m k2 d e2 e2 (by omega) (by omega) (fun w' H' => H'.rowRd x1) (fun w' H' => H'.rowRd x2))
  rw [decide_eq_true rfl] at SP SL
  clear e1 e2 m1 m2 m3 h1 h2 G hn hm
  go_enter Try.func30, Try.ntmps30
  go_wp2_with (go_skip)
  refine wp_region_K0 [1, 9] [0, 2, 3, 4, 5, 1, 6, 7, 8, 10, 11, 12, 13, 9, 14, 15, 16] H (by kernel_rfl) (by kernel_rfl) ?_
  iterate 5 (apply wpK_step; (· rfl); (· rfl); (· rfl); (· exact Nat.le_of_ble_eq_true rfl); (· intro l0 hs0 w0 H0; (first | go_big_quiet_skip | ((with_reducible apply wpQ_loadCH); (· exact cell_pars); (· rfl); (· rfl); (· exact hs0 _ HM.out.1); (· exact refA_g0 ..); (simp only [Act.put, List.setIfInBounds_toArray, List.set_cons_zero, List.set_cons_succ])) | go_big_quiet_step (fail)); (refine wpQuiet_nil ?_); (simp only [Array.getD_eq_getD_getElem?, List.getElem?_toArray, List.getElem?_cons_succ, List.getElem?_cons_zero, Option.getD_some]; rfl)); (simp only [Act.put, List.setIfInBounds_toArray, List.set_cons_zero, List.set_cons_succ]))
  refine wpK_call (f := 43) (argl := [.pointer (some ⟨p, 0, none⟩)]) rfl rfl rfl Try.call43 rfl ?_
  intro w0 H0
  refine (PA.out _ H0).mono ?_
  clear H0
  rintro e w1 ⟨a3, k3, rfl, H1⟩
  refine ⟨_, _, rfl, H1, _, fun t ht => List.mem_cons_of_mem _ ht, Keeps.refl _, ?_⟩
  clear H1
  (simp only [Act.put, List.setIfInBounds_toArray, List.set_cons_zero, List.set_cons_succ])
  (apply wpK_step; (· rfl); (· rfl); (· rfl); (· exact Nat.le_of_ble_eq_true rfl); (· intro l0 hs0 w0 H0; (first | go_big_quiet_skip | fail | go_big_quiet_step (exact (SP.out _ a3 k3 (hs0 _ (by (repeat (first | (with_reducible exact List.mem_cons_self) | with_reducible apply List.mem_cons_of_mem)))) (hs0 _ (List.mem_cons_of_mem _ HM.out.2.1))).quiet)); (refine wpQuiet_nil ?_); (simp only [Array.getD_eq_getD_getElem?, List.getElem?_toArray, List.getElem?_cons_succ, List.getElem?_cons_zero, Option.getD_some]; rfl)); (simp only [Act.put, List.setIfInBounds_toArray, List.set_cons_zero, List.set_cons_succ]))
  iterate 6 (apply wpK_step; (· rfl); (· rfl); (· rfl); (· exact Nat.le_of_ble_eq_true rfl); (· intro l0 hs0 w0 H0; (first | go_big_quiet_skip | ((with_reducible apply wpQ_loadCH); (· exact cell_lins); (· rfl); (· rfl); (· exact hs0 _ (List.mem_cons_of_mem _ HM.out.1)); (· exact refA_g1 ..); (simp only [Act.put, List.setIfInBounds_toArray, List.set_cons_zero, List.set_cons_succ])) | go_big_quiet_step (fail)); (refine wpQuiet_nil ?_); (simp only [Array.getD_eq_getD_getElem?, List.getElem?_toArray, List.getElem?_cons_succ, List.getElem?_cons_zero, Option.getD_some]; rfl)); (simp only [Act.put, List.setIfInBounds_toArray, List.set_cons_zero, List.set_cons_succ]))
  refine wpK_call (f := 21) (argl := [.pointer (some ⟨p, 0, none⟩)]) rfl rfl rfl Try.call21 rfl ?_
  intro w0 H0
  refine (LI.out _ _ H0).mono ?_
  clear H0
  rintro e w2 ⟨g4, k4, rfl, _, _, H1⟩
  refine ⟨_, _, rfl, H1, _, fun t ht => List.mem_cons_of_mem _ ht, Keeps.refl _, ?_⟩
  clear H1
  (simp only [Act.put, List.setIfInBounds_toArray, List.set_cons_zero, List.set_cons_succ])
  (apply wpK_step; (· rfl); (· rfl); (· rfl); (· exact Nat.le_of_ble_eq_true rfl); (· intro l0 hs0 w0 H0; (first | go_big_quiet_skip | fail | go_big_quiet_step (exact (SL.out _ (some ⟨g4, 0, none⟩) k4 (hs0 _ (by (repeat (first | (with_reducible exact List.mem_cons_self) | with_reducible apply List.mem_cons_of_mem)))) (hs0 _ (List.mem_cons_of_mem _ (List.mem_cons_of_mem _ HM.out.2.2)))).quiet)); (refine wpQuiet_nil ?_); (simp only [Array.getD_eq_getD_getElem?, List.getElem?_toArray, List.getElem?_cons_succ, List.getElem?_cons_zero, Option.getD_some]; rfl)); (simp only [Act.put, List.setIfInBounds_toArray, List.set_cons_zero, List.set_cons_succ]))
  iterate 2 (apply wpK_step; (· rfl); (· rfl); (· rfl); (· exact Nat.le_of_ble_eq_true rfl); (· intro l0 hs0 w0 H0; (first | go_big_quiet_skip | fail | go_big_quiet_step (fail)); (refine wpQuiet_nil ?_); (simp only [Array.getD_eq_getD_getElem?, List.getElem?_toArray, List.getElem?_cons_succ, List.getElem?_cons_zero, Option.getD_some]; rfl)); (simp only [Act.put, List.setIfInBounds_toArray, List.set_cons_zero, List.set_cons_succ]))
  (refine wpK_nil ?_; clear H; intro _ H)
  go_wp2_with (go_skip)
  go_ret
  exact ⟨rfl, H.tail.tail⟩
end
end Go.Proofs.Ytacglcpjbepfnaa
