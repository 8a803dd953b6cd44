/- countinghouselaw03.Same, Does: a ledger beside the reference's. -/
import Derived.Test.YtgobnamhdkbbeaaPayGPart15
import Derived.Test.YtgobnamhdkbbeaaRefLed
/- countinghouselaw03.Same: of a ledger and the reference's. -/
namespace Go.Proofs.Ytgobnamhdkbbeaa
open Go.RowKit
set_option linter.unusedSimpArgs false
set_option linter.unusedVariables false
theorem Pull.mem {l r : List Thing} {x : Thing} (h : Pull l x r) : x ∈ l := h.perm.mem_iff.2 List.mem_cons_self
section
variable {W w : World} {l r s : List Thing} {p q rp : Nat} {S : Lgr}
set_option maxRecDepth 100000
set_option maxHeartbeats 8000000
theorem lparM (G : S.Good) (H : Heap W l w) (hm : LdC p S.P (some q) ∈ l) : Calls Try.prog 52 #[.pointer (some ⟨p, 0, none⟩)] w fun e w' => ∃ a cc, e = .returned (.slice a S.P.length S.P.length) ∧ Heap W (RowT 30 1 (.slice a S.P.length cc) S.P.length (pI S.P) :: l) w' := by
  refine (lparties_H (p := p) (q := q) G.par G.par1 H hm).mono ?_
  rintro e w' (⟨h0, rfl, H⟩ | ⟨_, g, cc, rfl, _, H⟩)
  · refine ⟨none, 0, by rw [h0], ?_⟩
    have := H.nilRow 30 1
    rw [h0, List.eq_nil_of_length_eq_zero h0]
    exact this
  · exact ⟨_, _, rfl, H⟩
theorem llinesM (G : S.Good) (h1 : Pull l (LdC p S.P (some q)) r) (h2 : Pull r (LdM q S.L) s) (H : Heap W l w) : Calls Try.prog 32 #[.pointer (some ⟨p, 0, none⟩)] w fun e w' => ∃ g c, e = .returned (.slice (some ⟨g, 0, none⟩) S.L.length c) ∧ S.L.length ≤ c ∧ c ≤ maxLen ∧ Heap W (RowT 84 5 (.slice (some ⟨g, 0, none⟩) S.L.length c) S.L.length (linL S.L) :: l) w' := by
  refine (llines_H G (H.top2 h1 h2)).mono ?_
  rintro e w' ⟨g, c, rfl, h3, h4, H⟩
  exact ⟨g, c, rfl, h3, h4, H.perm (.cons _ (h1.perm.trans (h2.perm.cons _)).symm)⟩
theorem sameLed_A (G : S.Good) (h1 : Pull l (LdC p S.P (some q)) r) (h2 : Pull r (LdM q S.L) s) (M : RefM l rp S) : AnsH W l 29 #[.pointer (some ⟨p, 0, none⟩), .pointer (some ⟨rp, 0, none⟩)] (.bool true) := by
  intro w H
  obtain ⟨a, n, c, b, m, d, e1, e2, m1, m2, m3⟩ := M
  have hn := G.few16
  have hm := G.few
  have HM := Lib.hid (And.intro m1 (And.intro m2 m3))
  have PA := Lib.hid (fun (w' : World) (h : Heap W l w') => lparM G h h1.mem)
  have LI := Lib.hid (fun (x : Thing) (w' : World) (h : Heap W (x :: l) w') => llinesM (W := W) G (.there h1) (.there h2) h)
  rw [e1] at PA
  rw [e2] at LI
  have SP := Lib.hid (fun (l' : List Thing) (a2 : Option Addr) (k2 : Nat) (x1 : RowT 30 1 (.slice a2 n k2) n (pI S.P) ∈ l') (x2 : RowT 30 1 (.slice a n c) n (pI S.P) ∈ l') => sameParties_Q (W := W) (l := l') a2 a n n n c e1 e1 (by omega) (by omega) (fun w' H' => H'.rowRd x1) (fun w' H' => H'.rowRd x2))
  have SL := Lib.hid (fun (l' : List Thing) (a2 : Option Addr) (k2 : Nat) (x1 : RowT 84 5 (.slice a2 m k2) m (linL S.L) ∈ l') (x2 : RowT 84 5 (.slice b m d) m (linL S.L) ∈ l') => sameLines_P (W := W) (l := l') a2 b m m k2 d e2 e2 (by omega) (by omega) (fun w' H' => H'.rowRd x1) (fun w' H' => H'.rowRd x2))
  rw [decide_eq_true rfl] at SP SL
  clear e1 e2 m1 m2 m3 h1 h2 G hn hm
  go_enter Try.func29, Try.ntmps29
  go_wp2_with (go_skip)
  refine wp_region_K0 [1, 9] [0, 2, 3, 4, 5, 1, 6, 7, 8, 10, 11, 12, 13, 9, 14, 15, 16] H (by kernel_rfl) (by kernel_rfl) ?_
  iterate 5 (apply wpK_step; (· rfl); (· rfl); (· rfl); (· exact Nat.le_of_ble_eq_true rfl); (· intro l0 hs0 w0 H0; (first | go_big_quiet_skip | ((with_reducible apply wpQ_loadCH); (· exact cell_pars); (· rfl); (· rfl); (· exact hs0 _ HM.out.1); (· exact refA_g0 ..); (simp only [Act.put, List.setIfInBounds_toArray, List.set_cons_zero, List.set_cons_succ])) | go_big_quiet_step (fail)); (refine wpQuiet_nil ?_); (simp only [Array.getD_eq_getD_getElem?, List.getElem?_toArray, List.getElem?_cons_succ, List.getElem?_cons_zero, Option.getD_some]; rfl)); (simp only [Act.put, List.setIfInBounds_toArray, List.set_cons_zero, List.set_cons_succ]))
  refine wpK_call (f := 52) (argl := [.pointer (some ⟨p, 0, none⟩)]) rfl rfl rfl Try.call52 rfl ?_
  intro w0 H0
  refine (PA.out _ H0).mono ?_
  clear H0
  rintro e w1 ⟨a3, k3, rfl, H1⟩
  refine ⟨_, _, rfl, H1, _, fun t ht => List.mem_cons_of_mem _ ht, Keeps.refl _, ?_⟩
  clear H1
  (simp only [Act.put, List.setIfInBounds_toArray, List.set_cons_zero, List.set_cons_succ])
  (apply wpK_step; (· rfl); (· rfl); (· rfl); (· exact Nat.le_of_ble_eq_true rfl); (· intro l0 hs0 w0 H0; (first | go_big_quiet_skip | fail | go_big_quiet_step (exact (SP.out _ a3 k3 (hs0 _ (by (repeat (first | (with_reducible exact List.mem_cons_self) | with_reducible apply List.mem_cons_of_mem)))) (hs0 _ (List.mem_cons_of_mem _ HM.out.2.1))).quiet)); (refine wpQuiet_nil ?_); (simp only [Array.getD_eq_getD_getElem?, List.getElem?_toArray, List.getElem?_cons_succ, List.getElem?_cons_zero, Option.getD_some]; rfl)); (simp only [Act.put, List.setIfInBounds_toArray, List.set_cons_zero, List.set_cons_succ]))
  iterate 6 (apply wpK_step; (· rfl); (· rfl); (· rfl); (· exact Nat.le_of_ble_eq_true rfl); (· intro l0 hs0 w0 H0; (first | go_big_quiet_skip | ((with_reducible apply wpQ_loadCH); (· exact cell_lins); (· rfl); (· rfl); (· exact hs0 _ (List.mem_cons_of_mem _ HM.out.1)); (· exact refA_g1 ..); (simp only [Act.put, List.setIfInBounds_toArray, List.set_cons_zero, List.set_cons_succ])) | go_big_quiet_step (fail)); (refine wpQuiet_nil ?_); (simp only [Array.getD_eq_getD_getElem?, List.getElem?_toArray, List.getElem?_cons_succ, List.getElem?_cons_zero, Option.getD_some]; rfl)); (simp only [Act.put, List.setIfInBounds_toArray, List.set_cons_zero, List.set_cons_succ]))
  refine wpK_call (f := 32) (argl := [.pointer (some ⟨p, 0, none⟩)]) rfl rfl rfl Try.call32 rfl ?_
  intro w0 H0
  refine (LI.out _ _ H0).mono ?_
  clear H0
  rintro e w2 ⟨g4, k4, rfl, _, _, H1⟩
  refine ⟨_, _, rfl, H1, _, fun t ht => List.mem_cons_of_mem _ ht, Keeps.refl _, ?_⟩
  clear H1
  (simp only [Act.put, List.setIfInBounds_toArray, List.set_cons_zero, List.set_cons_succ])
  (apply wpK_step; (· rfl); (· rfl); (· rfl); (· exact Nat.le_of_ble_eq_true rfl); (· intro l0 hs0 w0 H0; (first | go_big_quiet_skip | fail | go_big_quiet_step (exact (SL.out _ (some ⟨g4, 0, none⟩) k4 (hs0 _ (by (repeat (first | (with_reducible exact List.mem_cons_self) | with_reducible apply List.mem_cons_of_mem)))) (hs0 _ (List.mem_cons_of_mem _ (List.mem_cons_of_mem _ HM.out.2.2)))).quiet)); (refine wpQuiet_nil ?_); (simp only [Array.getD_eq_getD_getElem?, List.getElem?_toArray, List.getElem?_cons_succ, List.getElem?_cons_zero, Option.getD_some]; rfl)); (simp only [Act.put, List.setIfInBounds_toArray, List.set_cons_zero, List.set_cons_succ]))
  iterate 2 (apply wpK_step; (· rfl); (· rfl); (· rfl); (· exact Nat.le_of_ble_eq_true rfl); (· intro l0 hs0 w0 H0; (first | go_big_quiet_skip | fail | go_big_quiet_step (fail)); (refine wpQuiet_nil ?_); (simp only [Array.getD_eq_getD_getElem?, List.getElem?_toArray, List.getElem?_cons_succ, List.getElem?_cons_zero, Option.getD_some]; rfl)); (simp only [Act.put, List.setIfInBounds_toArray, List.set_cons_zero, List.set_cons_succ]))
  (refine wpK_nil ?_; clear H; intro _ H)
  go_wp2_with (go_skip)
  go_ret
  exact ⟨rfl, H.tail.tail⟩
end
end Go.Proofs.Ytgobnamhdkbbeaa

/- countinghouselaw03.Does: an act on a ledger and on the reference's: both answer alike. -/
namespace Go.Proofs.Ytgobnamhdkbbeaa
open Go.RowKit
set_option linter.unusedSimpArgs false
set_option linter.unusedVariables false
attribute [local go_sem high] run_min2
/-- A ledger and the reference's, with the same parties and lines. -/
def DuoH (W : World) (l : List Thing) (p q rp : Nat) (S : Lgr) (w : World) : Prop := ∃ a n c b m d, S.P.length = n ∧ S.L.length = m ∧ Heap W (LdC p S.P (some q) :: LdM q S.L :: RefC rp (.slice a n c) (.slice b m d) :: RowT 30 1 (.slice a n c) n (pI S.P) :: RowT 84 5 (.slice b m d) m (linL S.L) :: l) w
/-- What is pushed by an act. -/
def doesN (S : Lgr) (x : LAct) : Int := if 128 ≤ x.k then min x.n (roomOf S x.a x.b x.c) else x.n
def doesS (S : Lgr) (x : LAct) : Lgr :=
  if x.k % 8 = 0 then openS S x.a else if x.k % 8 = 1 ∨ x.k % 8 = 2 then trustS S x.a x.b x.c x.n else if x.k % 8 = 3 ∨ x.k % 8 = 4 ∨ x.k % 8 = 5 then pushS S x.a x.b x.c (doesN S x) else if x.k % 8 = 6 then forgS S x.a x.b x.c x.n else S
theorem doesS_good {S : Lgr} (G : S.Good) (x : LAct) : (doesS S x).Good := by
  unfold doesS
  split
  · exact G.open _
  · split
    · exact G.trust _ _ _ _
    · split
      · exact G.push _ _ _ _
      · split
        · exact G.forg _ _ _ _
        · exact G
section
variable {W w : World} {l : List Thing} {p q rp : Nat} {S : Lgr}
set_option maxRecDepth 100000
set_option maxHeartbeats 8000000
theorem does_H (x : LAct) (hok : ActOk x) (G : S.Good) (H : DuoH W l p q rp S w) :
    Calls Try.prog 26 #[.pointer (some ⟨p, 0, none⟩), .pointer (some ⟨rp, 0, none⟩), .agg (actA x)] w fun e w' => e = .returned (.bool true) ∧ DuoH W l p q rp (doesS S x) w' := by
  obtain ⟨a, n, c, b, m, d, hl1, hl2, H⟩ := H
  have HL := Lib.hid (And.intro hl1 hl2)
  have HG := Lib.hid G
  have hN : doesN S x = if 128 ≤ x.k then min x.n (roomOf S x.a x.b x.c) else x.n := rfl
  have hroom := G.room x.a x.b x.c
  have RM := Lib.hid (fun (z : Thing) => rroom_H (W := W) (S := S) (p := rp) (l := z :: LdC p S.P (some q) :: LdM q S.L :: RefC rp (.slice a n c) (.slice b m d) :: RowT 30 1 (.slice a n c) n (pI S.P) :: RowT 84 5 (.slice b m d) m (linL S.L) :: l) x.a x.b x.c G ⟨a, n, c, b, m, d, hl1, hl2, by (repeat (first | (with_reducible exact List.mem_cons_self) | with_reducible apply List.mem_cons_of_mem)), by (repeat (first | (with_reducible exact List.mem_cons_self) | with_reducible apply List.mem_cons_of_mem)), by (repeat (first | (with_reducible exact List.mem_cons_self) | with_reducible apply List.mem_cons_of_mem))⟩ hok.2.1 hok.2.2.1 hok.2.2.2.1)
  have hD : ∀ S', doesS S x = S' → DuoH W l p q rp S' = DuoH W l p q rp (doesS S x) := fun S' h => by rw [h]
  obtain ⟨xk, xa, xb, xc, xn⟩ := x
  obtain ⟨o0, o1, o2, o3, o4⟩ := hok
  simp only at o0 o1 o2 o3 o4 hN RM hroom hD
  have HO := Lib.hid o4
  have HNB := Lib.hid (show -9223372036854775808 ≤ doesN S ⟨xk, xa, xb, xc, xn⟩ ∧ doesN S ⟨xk, xa, xb, xc, xn⟩ ≤ 9223372036854775807 by rw [hN]; split <;> omega)
  generalize doesN S ⟨xk, xa, xb, xc, xn⟩ = N at *
  have hr : xk % 8 = 0 ∨ xk % 8 = 1 ∨ xk % 8 = 2 ∨ xk % 8 = 3 ∨ xk % 8 = 4 ∨ xk % 8 = 5 ∨ xk % 8 = 6 ∨ xk % 8 = 7 := by omega
  clear hl1 hl2 G
  rcases hr with hr | hr | hr | hr | hr | hr | hr | hr
  · have h8 : Int.tmod (xk : Int) 8 = 0 := by rw [Int.tmod_eq_emod_of_nonneg (by omega)]; omega
    have HD := Lib.hid (hD (openS S xa) (by simp [hr, doesS]))
    clear hD hN hroom RM HNB hr
    go_enter Try.func26, Try.ntmps26
    go_wp2_with (first | go_skip | ((with_reducible show wpList _ _ _ (_ :: _) _ _); (with_reducible apply wpl_boxRH); (· rfl); (· rfl); (· exact H); (clear H; intro px _ H); (simp only [Act.put, List.setIfInBounds_toArray, List.set_cons_zero, List.set_cons_succ])) | ((with_reducible show wpList _ _ _ (_ :: _) _ _); (with_reducible apply wpl_loadCH); (· first | exact cell_u8 | exact cell_party | exact cell_cur | exact cell_i64); (· rfl); (· rfl); (· exact H); (· (repeat (first | (with_reducible exact List.mem_cons_self) | with_reducible apply List.mem_cons_of_mem))); (· with_reducible first | exact act_g0 .. | exact act_g1 .. | exact act_g2 .. | exact act_g3 .. | exact act_g4 ..); (simp only [Act.put, List.setIfInBounds_toArray, List.set_cons_zero, List.set_cons_succ])))
    have LC := Lib.hid (fun (l' : List Thing) (w' : World) (h : Heap W (LdC p S.P (some q) :: LdM q S.L :: l') w') => lopen2_H (S := S) xa o1 (p := p) (q := q) (l := l') h)
    have RC := Lib.hid (fun (l' : List Thing) (w' : World) (h : RefH W l' rp S w') => ropen_H (S := S) xa o1 HG.out h)
    have hb : (openE S xa == openE S xa) = true := by simp
    generalize hE : openE S xa = E at *
    clear hE
    generalize hS2 : openS S xa = S2 at *
    clear hS2
    refine wp_region_K [3, 7] [0, 1, 2, 4, 5, 6, 3, 7, 8, 9] [Cel px (act (xk : Int) (xa : Int) (xb : Int) (xc : Int) xn) 59] H (fun t ht => by rw [List.mem_singleton.1 ht]; (repeat (first | (with_reducible exact List.mem_cons_self) | with_reducible apply List.mem_cons_of_mem))) (by kernel_rfl) (by kernel_rfl) ?_
    iterate 6 (apply wpK_step; (· rfl); (· rfl); (· rfl); (· exact Nat.le_of_ble_eq_true rfl); (· intro l0 hs0 w0 H0; (first | go_big_quiet_skip | ((with_reducible apply wpQ_loadCH); (· first | exact cell_u8 | exact cell_party | exact cell_cur | exact cell_i64); (· rfl); (· rfl); (· exact hs0 _ (List.mem_singleton.2 rfl)); (· with_reducible first | exact act_g0 .. | exact act_g1 .. | exact act_g2 .. | exact act_g3 .. | exact act_g4 ..); (simp only [Act.put, List.setIfInBounds_toArray, List.set_cons_zero, List.set_cons_succ])) | go_big_quiet_step (fail)); (refine wpQuiet_nil ?_); (simp only [Array.getD_eq_getD_getElem?, List.getElem?_toArray, List.getElem?_cons_succ, List.getElem?_cons_zero, Option.getD_some]; rfl)); (simp only [Act.put, List.setIfInBounds_toArray, List.set_cons_zero, List.set_cons_succ]))
    refine wpK_call (f := 41) (argl := [.pointer (some ⟨p, 0, none⟩), .int .u8 (xa : Int)]) rfl rfl rfl Try.call41 rfl ?_
    intro w0 H0
    refine (LC.out _ _ (H0.top2 (.there .here) (.there .here))).mono ?_
    clear H0
    rintro e w1 ⟨rfl, H1⟩
    refine ⟨_, _, rfl, H1, _, Keeps.refl _, fun t ht => by rw [List.mem_singleton.1 ht]; (repeat (first | (with_reducible exact List.mem_cons_self) | with_reducible apply List.mem_cons_of_mem)), ?_⟩
    clear H1
    (simp only [Act.put, List.setIfInBounds_toArray, List.set_cons_zero, List.set_cons_succ])
    refine wpK_call (f := 61) (argl := [.pointer (some ⟨rp, 0, none⟩), .int .u8 (xa : Int)]) rfl rfl rfl Try.call61 rfl ?_
    intro w0 H0
    refine (RC.out _ _ (RefH.shut HL.out.1 HL.out.2 (H0.top3 (.there (.there (.there .here))) (.there (.there (.there .here))) (.there (.there (.there .here)))))).mono ?_
    clear H0
    rintro e w2 ⟨rfl, HH⟩
    obtain ⟨a2, n2, c2, b2, m2, d2, hl3, hl4, _, H1⟩ := HH.open3
    have HL2 := Lib.hid (And.intro hl3 hl4)
    refine ⟨_, _, rfl, H1, _, Keeps.refl _, fun t ht => by rw [List.mem_singleton.1 ht]; (repeat (first | (with_reducible exact List.mem_cons_self) | with_reducible apply List.mem_cons_of_mem)), ?_⟩
    clear H1 HH hl3 hl4
    (simp only [Act.put, List.setIfInBounds_toArray, List.set_cons_zero, List.set_cons_succ])
    iterate 2 (apply wpK_step; (· rfl); (· rfl); (· rfl); (· exact Nat.le_of_ble_eq_true rfl); (· intro l0 hs0 w0 H0; (first | go_big_quiet_skip | fail | go_big_quiet_step (fail)); (refine wpQuiet_nil ?_); (simp only [Array.getD_eq_getD_getElem?, List.getElem?_toArray, List.getElem?_cons_succ, List.getElem?_cons_zero, Option.getD_some]; rfl)); (simp only [Act.put, List.setIfInBounds_toArray, List.set_cons_zero, List.set_cons_succ]))
    (refine wpK_nil ?_; clear H; intro _ H)
    go_wp2_with (go_skip)
    go_ret
    rw [← HD.out]
    exact ⟨rfl, a2, n2, c2, b2, m2, d2, HL2.out.1, HL2.out.2, (H.drop (.there (.there (.there (.there (.there .here)))))).top2 (.there (.there (.there .here))) (.there (.there (.there .here)))⟩
  · have h8 : Int.tmod (xk : Int) 8 = 1 := by rw [Int.tmod_eq_emod_of_nonneg (by omega)]; omega
    have HD := Lib.hid (hD (trustS S xa xb xc xn) (by simp [hr, doesS]))
    clear hD hN hroom RM HNB hr
    go_enter Try.func26, Try.ntmps26
    go_wp2_with (first | go_skip | ((with_reducible show wpList _ _ _ (_ :: _) _ _); (with_reducible apply wpl_boxRH); (· rfl); (· rfl); (· exact H); (clear H; intro px _ H); (simp only [Act.put, List.setIfInBounds_toArray, List.set_cons_zero, List.set_cons_succ])) | ((with_reducible show wpList _ _ _ (_ :: _) _ _); (with_reducible apply wpl_loadCH); (· first | exact cell_u8 | exact cell_party | exact cell_cur | exact cell_i64); (· rfl); (· rfl); (· exact H); (· (repeat (first | (with_reducible exact List.mem_cons_self) | with_reducible apply List.mem_cons_of_mem))); (· with_reducible first | exact act_g0 .. | exact act_g1 .. | exact act_g2 .. | exact act_g3 .. | exact act_g4 ..); (simp only [Act.put, List.setIfInBounds_toArray, List.set_cons_zero, List.set_cons_succ])))
    have LC := Lib.hid (fun (l' : List Thing) (w' : World) (h : Heap W (LdC p S.P (some q) :: LdM q S.L :: l') w') => ltrust2_H (S := S) xa xb xc xn o1 o2 o3 HG.out (p := p) (q := q) (l := l') h)
    have RC := Lib.hid (fun (l' : List Thing) (w' : World) (h : RefH W l' rp S w') => rtrust_H (S := S) xa xb xc xn o1 o2 o3 HO.out HG.out h)
    have hb : (trustE S xa xb xc xn == trustE S xa xb xc xn) = true := by simp
    generalize hE : trustE S xa xb xc xn = E at *
    clear hE
    generalize hS2 : trustS S xa xb xc xn = S2 at *
    clear hS2
    refine wp_region_K [9, 19] [0, 1, 2, 3, 4, 5, 6, 7, 8, 10, 11, 12, 13, 14, 15, 16, 17, 18, 9, 19, 20, 21] [Cel px (act (xk : Int) (xa : Int) (xb : Int) (xc : Int) xn) 59] H (fun t ht => by rw [List.mem_singleton.1 ht]; (repeat (first | (with_reducible exact List.mem_cons_self) | with_reducible apply List.mem_cons_of_mem))) (by kernel_rfl) (by kernel_rfl) ?_
    iterate 18 (apply wpK_step; (· rfl); (· rfl); (· rfl); (· exact Nat.le_of_ble_eq_true rfl); (· intro l0 hs0 w0 H0; (first | go_big_quiet_skip | ((with_reducible apply wpQ_loadCH); (· first | exact cell_u8 | exact cell_party | exact cell_cur | exact cell_i64); (· rfl); (· rfl); (· exact hs0 _ (List.mem_singleton.2 rfl)); (· with_reducible first | exact act_g0 .. | exact act_g1 .. | exact act_g2 .. | exact act_g3 .. | exact act_g4 ..); (simp only [Act.put, List.setIfInBounds_toArray, List.set_cons_zero, List.set_cons_succ])) | go_big_quiet_step (fail)); (refine wpQuiet_nil ?_); (simp only [Array.getD_eq_getD_getElem?, List.getElem?_toArray, List.getElem?_cons_succ, List.getElem?_cons_zero, Option.getD_some]; rfl)); (simp only [Act.put, List.setIfInBounds_toArray, List.set_cons_zero, List.set_cons_succ]))
    refine wpK_call (f := 42) (argl := [.pointer (some ⟨p, 0, none⟩), .int .u8 (xa : Int), .int .u8 (xb : Int), .int .u8 (xc : Int), .int .i64 xn]) rfl rfl rfl Try.call42 rfl ?_
    intro w0 H0
    refine (LC.out _ _ (H0.top2 (.there .here) (.there .here))).mono ?_
    clear H0
    rintro e w1 ⟨rfl, H1⟩
    refine ⟨_, _, rfl, H1, _, Keeps.refl _, fun t ht => by rw [List.mem_singleton.1 ht]; (repeat (first | (with_reducible exact List.mem_cons_self) | with_reducible apply List.mem_cons_of_mem)), ?_⟩
    clear H1
    (simp only [Act.put, List.setIfInBounds_toArray, List.set_cons_zero, List.set_cons_succ])
    refine wpK_call (f := 62) (argl := [.pointer (some ⟨rp, 0, none⟩), .int .u8 (xa : Int), .int .u8 (xb : Int), .int .u8 (xc : Int), .int .i64 xn]) rfl rfl rfl Try.call62 rfl ?_
    intro w0 H0
    refine (RC.out _ _ (RefH.shut HL.out.1 HL.out.2 (H0.top3 (.there (.there (.there .here))) (.there (.there (.there .here))) (.there (.there (.there .here)))))).mono ?_
    clear H0
    rintro e w2 ⟨rfl, HH⟩
    obtain ⟨a2, n2, c2, b2, m2, d2, hl3, hl4, _, H1⟩ := HH.open3
    have HL2 := Lib.hid (And.intro hl3 hl4)
    refine ⟨_, _, rfl, H1, _, Keeps.refl _, fun t ht => by rw [List.mem_singleton.1 ht]; (repeat (first | (with_reducible exact List.mem_cons_self) | with_reducible apply List.mem_cons_of_mem)), ?_⟩
    clear H1 HH hl3 hl4
    (simp only [Act.put, List.setIfInBounds_toArray, List.set_cons_zero, List.set_cons_succ])
    iterate 2 (apply wpK_step; (· rfl); (· rfl); (· rfl); (· exact Nat.le_of_ble_eq_true rfl); (· intro l0 hs0 w0 H0; (first | go_big_quiet_skip | fail | go_big_quiet_step (fail)); (refine wpQuiet_nil ?_); (simp only [Array.getD_eq_getD_getElem?, List.getElem?_toArray, List.getElem?_cons_succ, List.getElem?_cons_zero, Option.getD_some]; rfl)); (simp only [Act.put, List.setIfInBounds_toArray, List.set_cons_zero, List.set_cons_succ]))
    (refine wpK_nil ?_; clear H; intro _ H)
    go_wp2_with (go_skip)
    go_ret
    rw [← HD.out]
    exact ⟨rfl, a2, n2, c2, b2, m2, d2, HL2.out.1, HL2.out.2, (H.drop (.there (.there (.there (.there (.there .here)))))).top2 (.there (.there (.there .here))) (.there (.there (.there .here)))⟩
  · have h8 : Int.tmod (xk : Int) 8 = 2 := by rw [Int.tmod_eq_emod_of_nonneg (by omega)]; omega
    have HD := Lib.hid (hD (trustS S xa xb xc xn) (by simp [hr, doesS]))
    clear hD hN hroom RM HNB hr
    go_enter Try.func26, Try.ntmps26
    go_wp2_with (first | go_skip | ((with_reducible show wpList _ _ _ (_ :: _) _ _); (with_reducible apply wpl_boxRH); (· rfl); (· rfl); (· exact H); (clear H; intro px _ H); (simp only [Act.put, List.setIfInBounds_toArray, List.set_cons_zero, List.set_cons_succ])) | ((with_reducible show wpList _ _ _ (_ :: _) _ _); (with_reducible apply wpl_loadCH); (· first | exact cell_u8 | exact cell_party | exact cell_cur | exact cell_i64); (· rfl); (· rfl); (· exact H); (· (repeat (first | (with_reducible exact List.mem_cons_self) | with_reducible apply List.mem_cons_of_mem))); (· with_reducible first | exact act_g0 .. | exact act_g1 .. | exact act_g2 .. | exact act_g3 .. | exact act_g4 ..); (simp only [Act.put, List.setIfInBounds_toArray, List.set_cons_zero, List.set_cons_succ])))
    have LC := Lib.hid (fun (l' : List Thing) (w' : World) (h : Heap W (LdC p S.P (some q) :: LdM q S.L :: l') w') => ltrust2_H (S := S) xa xb xc xn o1 o2 o3 HG.out (p := p) (q := q) (l := l') h)
    have RC := Lib.hid (fun (l' : List Thing) (w' : World) (h : RefH W l' rp S w') => rtrust_H (S := S) xa xb xc xn o1 o2 o3 HO.out HG.out h)
    have hb : (trustE S xa xb xc xn == trustE S xa xb xc xn) = true := by simp
    generalize hE : trustE S xa xb xc xn = E at *
    clear hE
    generalize hS2 : trustS S xa xb xc xn = S2 at *
    clear hS2
    refine wp_region_K [9, 19] [0, 1, 2, 3, 4, 5, 6, 7, 8, 10, 11, 12, 13, 14, 15, 16, 17, 18, 9, 19, 20, 21] [Cel px (act (xk : Int) (xa : Int) (xb : Int) (xc : Int) xn) 59] H (fun t ht => by rw [List.mem_singleton.1 ht]; (repeat (first | (with_reducible exact List.mem_cons_self) | with_reducible apply List.mem_cons_of_mem))) (by kernel_rfl) (by kernel_rfl) ?_
    iterate 18 (apply wpK_step; (· rfl); (· rfl); (· rfl); (· exact Nat.le_of_ble_eq_true rfl); (· intro l0 hs0 w0 H0; (first | go_big_quiet_skip | ((with_reducible apply wpQ_loadCH); (· first | exact cell_u8 | exact cell_party | exact cell_cur | exact cell_i64); (· rfl); (· rfl); (· exact hs0 _ (List.mem_singleton.2 rfl)); (· with_reducible first | exact act_g0 .. | exact act_g1 .. | exact act_g2 .. | exact act_g3 .. | exact act_g4 ..); (simp only [Act.put, List.setIfInBounds_toArray, List.set_cons_zero, List.set_cons_succ])) | go_big_quiet_step (fail)); (refine wpQuiet_nil ?_); (simp only [Array.getD_eq_getD_getElem?, List.getElem?_toArray, List.getElem?_cons_succ, List.getElem?_cons_zero, Option.getD_some]; rfl)); (simp only [Act.put, List.setIfInBounds_toArray, List.set_cons_zero, List.set_cons_succ]))
    refine wpK_call (f := 42) (argl := [.pointer (some ⟨p, 0, none⟩), .int .u8 (xa : Int), .int .u8 (xb : Int), .int .u8 (xc : Int), .int .i64 xn]) rfl rfl rfl Try.call42 rfl ?_
    intro w0 H0
    refine (LC.out _ _ (H0.top2 (.there .here) (.there .here))).mono ?_
    clear H0
    rintro e w1 ⟨rfl, H1⟩
    refine ⟨_, _, rfl, H1, _, Keeps.refl _, fun t ht => by rw [List.mem_singleton.1 ht]; (repeat (first | (with_reducible exact List.mem_cons_self) | with_reducible apply List.mem_cons_of_mem)), ?_⟩
    clear H1
    (simp only [Act.put, List.setIfInBounds_toArray, List.set_cons_zero, List.set_cons_succ])
    refine wpK_call (f := 62) (argl := [.pointer (some ⟨rp, 0, none⟩), .int .u8 (xa : Int), .int .u8 (xb : Int), .int .u8 (xc : Int), .int .i64 xn]) rfl rfl rfl Try.call62 rfl ?_
    intro w0 H0
    refine (RC.out _ _ (RefH.shut HL.out.1 HL.out.2 (H0.top3 (.there (.there (.there .here))) (.there (.there (.there .here))) (.there (.there (.there .here)))))).mono ?_
    clear H0
    rintro e w2 ⟨rfl, HH⟩
    obtain ⟨a2, n2, c2, b2, m2, d2, hl3, hl4, _, H1⟩ := HH.open3
    have HL2 := Lib.hid (And.intro hl3 hl4)
    refine ⟨_, _, rfl, H1, _, Keeps.refl _, fun t ht => by rw [List.mem_singleton.1 ht]; (repeat (first | (with_reducible exact List.mem_cons_self) | with_reducible apply List.mem_cons_of_mem)), ?_⟩
    clear H1 HH hl3 hl4
    (simp only [Act.put, List.setIfInBounds_toArray, List.set_cons_zero, List.set_cons_succ])
    iterate 2 (apply wpK_step; (· rfl); (· rfl); (· rfl); (· exact Nat.le_of_ble_eq_true rfl); (· intro l0 hs0 w0 H0; (first | go_big_quiet_skip | fail | go_big_quiet_step (fail)); (refine wpQuiet_nil ?_); (simp only [Array.getD_eq_getD_getElem?, List.getElem?_toArray, List.getElem?_cons_succ, List.getElem?_cons_zero, Option.getD_some]; rfl)); (simp only [Act.put, List.setIfInBounds_toArray, List.set_cons_zero, List.set_cons_succ]))
    (refine wpK_nil ?_; clear H; intro _ H)
    go_wp2_with (go_skip)
    go_ret
    rw [← HD.out]
    exact ⟨rfl, a2, n2, c2, b2, m2, d2, HL2.out.1, HL2.out.2, (H.drop (.there (.there (.there (.there (.there .here)))))).top2 (.there (.there (.there .here))) (.there (.there (.there .here)))⟩
  · have h8 : Int.tmod (xk : Int) 8 = 3 := by rw [Int.tmod_eq_emod_of_nonneg (by omega)]; omega
    by_cases hk : 128 ≤ xk
    · rw [if_pos hk] at hN
      have HD := Lib.hid (hD (pushS S xa xb xc N) (by simp [hr, doesS, doesN, hk, hN]))
      have hmin : min xn (roomOf S (xa : Int) (xb : Int) (xc : Int)) = N := hN.symm
      clear hD hroom hr hN
      generalize roomOf S (xa : Int) (xb : Int) (xc : Int) = r at *
      go_enter Try.func26, Try.ntmps26
      go_wp2_with (first | go_skip | ((with_reducible show wpList _ _ _ (_ :: _) _ _); (with_reducible apply wpl_boxRH); (· rfl); (· rfl); (· exact H); (clear H; intro px _ H); (simp only [Act.put, List.setIfInBounds_toArray, List.set_cons_zero, List.set_cons_succ])) | ((with_reducible refine AnsH.call (RM.out _) H ?_); clear H; intro _ H) | ((with_reducible show wpList _ _ _ (_ :: _) _ _); (with_reducible apply wpl_loadCH); (· first | exact cell_u8 | exact cell_party | exact cell_cur | exact cell_i64); (· rfl); (· rfl); (· exact H); (· (repeat (first | (with_reducible exact List.mem_cons_self) | with_reducible apply List.mem_cons_of_mem))); (· with_reducible first | exact act_g0 .. | exact act_g1 .. | exact act_g2 .. | exact act_g3 .. | exact act_g4 ..); (simp only [Act.put, List.setIfInBounds_toArray, List.set_cons_zero, List.set_cons_succ])))
      try rw [hmin]
      try go_wp2_with (go_skip)
      clear RM
      have LC := Lib.hid (fun (l' : List Thing) (w' : World) (h : Heap W (LdC p S.P (some q) :: LdM q S.L :: l') w') => lpush2_H (S := S) xa xb xc N o1 o2 o3 HNB.out HG.out (p := p) (q := q) (l := l') h)
      have RC := Lib.hid (fun (l' : List Thing) (w' : World) (h : RefH W l' rp S w') => rpushL_H (S := S) xa xb xc N o1 o2 o3 HNB.out HG.out h)
      have hb : (pushE S xa xb xc N == pushE S xa xb xc N) = true := by simp
      generalize hE : pushE S xa xb xc N = E at *
      clear hE
      generalize hS2 : pushS S xa xb xc N = S2 at *
      clear hS2
      refine wp_region_K [8, 17] [0, 1, 2, 3, 4, 5, 6, 7, 9, 10, 11, 12, 13, 14, 15, 16, 8, 17, 18, 19] [Cel px (act (xk : Int) (xa : Int) (xb : Int) (xc : Int) xn) 59] H (fun t ht => by rw [List.mem_singleton.1 ht]; (repeat (first | (with_reducible exact List.mem_cons_self) | with_reducible apply List.mem_cons_of_mem))) (by kernel_rfl) (by kernel_rfl) ?_
      iterate 16 (apply wpK_step; (· rfl); (· rfl); (· rfl); (· exact Nat.le_of_ble_eq_true rfl); (· intro l0 hs0 w0 H0; (first | go_big_quiet_skip | ((with_reducible apply wpQ_loadCH); (· first | exact cell_u8 | exact cell_party | exact cell_cur | exact cell_i64); (· rfl); (· rfl); (· exact hs0 _ (List.mem_singleton.2 rfl)); (· with_reducible first | exact act_g0 .. | exact act_g1 .. | exact act_g2 .. | exact act_g3 .. | exact act_g4 ..); (simp only [Act.put, List.setIfInBounds_toArray, List.set_cons_zero, List.set_cons_succ])) | go_big_quiet_step (fail)); (refine wpQuiet_nil ?_); (simp only [Array.getD_eq_getD_getElem?, List.getElem?_toArray, List.getElem?_cons_succ, List.getElem?_cons_zero, Option.getD_some]; rfl)); (simp only [Act.put, List.setIfInBounds_toArray, List.set_cons_zero, List.set_cons_succ]))
      refine wpK_call (f := 18) (argl := [.pointer (some ⟨p, 0, none⟩), .int .u8 (xa : Int), .int .u8 (xb : Int), .int .u8 (xc : Int), .int .i64 N]) rfl rfl rfl Try.call18 rfl ?_
      intro w0 H0
      refine (LC.out _ _ (H0.top2 (.there .here) (.there .here))).mono ?_
      clear H0
      rintro e w1 ⟨rfl, H1⟩
      refine ⟨_, _, rfl, H1, _, Keeps.refl _, fun t ht => by rw [List.mem_singleton.1 ht]; (repeat (first | (with_reducible exact List.mem_cons_self) | with_reducible apply List.mem_cons_of_mem)), ?_⟩
      clear H1
      (simp only [Act.put, List.setIfInBounds_toArray, List.set_cons_zero, List.set_cons_succ])
      refine wpK_call (f := 64) (argl := [.pointer (some ⟨rp, 0, none⟩), .int .u8 (xa : Int), .int .u8 (xb : Int), .int .u8 (xc : Int), .int .i64 N]) rfl rfl rfl Try.call64 rfl ?_
      intro w0 H0
      refine (RC.out _ _ (RefH.shut HL.out.1 HL.out.2 (H0.top3 (.there (.there (.there .here))) (.there (.there (.there .here))) (.there (.there (.there .here)))))).mono ?_
      clear H0
      rintro e w2 ⟨rfl, HH⟩
      obtain ⟨a2, n2, c2, b2, m2, d2, hl3, hl4, _, H1⟩ := HH.open3
      have HL2 := Lib.hid (And.intro hl3 hl4)
      refine ⟨_, _, rfl, H1, _, Keeps.refl _, fun t ht => by rw [List.mem_singleton.1 ht]; (repeat (first | (with_reducible exact List.mem_cons_self) | with_reducible apply List.mem_cons_of_mem)), ?_⟩
      clear H1 HH hl3 hl4
      (simp only [Act.put, List.setIfInBounds_toArray, List.set_cons_zero, List.set_cons_succ])
      iterate 2 (apply wpK_step; (· rfl); (· rfl); (· rfl); (· exact Nat.le_of_ble_eq_true rfl); (· intro l0 hs0 w0 H0; (first | go_big_quiet_skip | fail | go_big_quiet_step (fail)); (refine wpQuiet_nil ?_); (simp only [Array.getD_eq_getD_getElem?, List.getElem?_toArray, List.getElem?_cons_succ, List.getElem?_cons_zero, Option.getD_some]; rfl)); (simp only [Act.put, List.setIfInBounds_toArray, List.set_cons_zero, List.set_cons_succ]))
      (refine wpK_nil ?_; clear H; intro _ H)
      go_wp2_with (go_skip)
      go_ret
      rw [← HD.out]
      exact ⟨rfl, a2, n2, c2, b2, m2, d2, HL2.out.1, HL2.out.2, (H.drop (.there (.there (.there (.there (.there .here)))))).top2 (.there (.there (.there .here))) (.there (.there (.there .here)))⟩
    · rw [if_neg hk] at hN
      have HD := Lib.hid (hD (pushS S xa xb xc xn) (by simp [hr, doesS, doesN, hk]))
      subst N
      clear hD hroom hr RM
      go_enter Try.func26, Try.ntmps26
      go_wp2_with (first | go_skip | ((with_reducible show wpList _ _ _ (_ :: _) _ _); (with_reducible apply wpl_boxRH); (· rfl); (· rfl); (· exact H); (clear H; intro px _ H); (simp only [Act.put, List.setIfInBounds_toArray, List.set_cons_zero, List.set_cons_succ])) | ((with_reducible show wpList _ _ _ (_ :: _) _ _); (with_reducible apply wpl_loadCH); (· first | exact cell_u8 | exact cell_party | exact cell_cur | exact cell_i64); (· rfl); (· rfl); (· exact H); (· (repeat (first | (with_reducible exact List.mem_cons_self) | with_reducible apply List.mem_cons_of_mem))); (· with_reducible first | exact act_g0 .. | exact act_g1 .. | exact act_g2 .. | exact act_g3 .. | exact act_g4 ..); (simp only [Act.put, List.setIfInBounds_toArray, List.set_cons_zero, List.set_cons_succ])))
      have LC := Lib.hid (fun (l' : List Thing) (w' : World) (h : Heap W (LdC p S.P (some q) :: LdM q S.L :: l') w') => lpush2_H (S := S) xa xb xc xn o1 o2 o3 HNB.out HG.out (p := p) (q := q) (l := l') h)
      have RC := Lib.hid (fun (l' : List Thing) (w' : World) (h : RefH W l' rp S w') => rpushL_H (S := S) xa xb xc xn o1 o2 o3 HNB.out HG.out h)
      have hb : (pushE S xa xb xc xn == pushE S xa xb xc xn) = true := by simp
      generalize hE : pushE S xa xb xc xn = E at *
      clear hE
      generalize hS2 : pushS S xa xb xc xn = S2 at *
      clear hS2
      refine wp_region_K [8, 17] [0, 1, 2, 3, 4, 5, 6, 7, 9, 10, 11, 12, 13, 14, 15, 16, 8, 17, 18, 19] [Cel px (act (xk : Int) (xa : Int) (xb : Int) (xc : Int) xn) 59] H (fun t ht => by rw [List.mem_singleton.1 ht]; (repeat (first | (with_reducible exact List.mem_cons_self) | with_reducible apply List.mem_cons_of_mem))) (by kernel_rfl) (by kernel_rfl) ?_
      iterate 16 (apply wpK_step; (· rfl); (· rfl); (· rfl); (· exact Nat.le_of_ble_eq_true rfl); (· intro l0 hs0 w0 H0; (first | go_big_quiet_skip | ((with_reducible apply wpQ_loadCH); (· first | exact cell_u8 | exact cell_party | exact cell_cur | exact cell_i64); (· rfl); (· rfl); (· exact hs0 _ (List.mem_singleton.2 rfl)); (· with_reducible first | exact act_g0 .. | exact act_g1 .. | exact act_g2 .. | exact act_g3 .. | exact act_g4 ..); (simp only [Act.put, List.setIfInBounds_toArray, List.set_cons_zero, List.set_cons_succ])) | go_big_quiet_step (fail)); (refine wpQuiet_nil ?_); (simp only [Array.getD_eq_getD_getElem?, List.getElem?_toArray, List.getElem?_cons_succ, List.getElem?_cons_zero, Option.getD_some]; rfl)); (simp only [Act.put, List.setIfInBounds_toArray, List.set_cons_zero, List.set_cons_succ]))
      refine wpK_call (f := 18) (argl := [.pointer (some ⟨p, 0, none⟩), .int .u8 (xa : Int), .int .u8 (xb : Int), .int .u8 (xc : Int), .int .i64 xn]) rfl rfl rfl Try.call18 rfl ?_
      intro w0 H0
      refine (LC.out _ _ (H0.top2 (.there .here) (.there .here))).mono ?_
      clear H0
      rintro e w1 ⟨rfl, H1⟩
      refine ⟨_, _, rfl, H1, _, Keeps.refl _, fun t ht => by rw [List.mem_singleton.1 ht]; (repeat (first | (with_reducible exact List.mem_cons_self) | with_reducible apply List.mem_cons_of_mem)), ?_⟩
      clear H1
      (simp only [Act.put, List.setIfInBounds_toArray, List.set_cons_zero, List.set_cons_succ])
      refine wpK_call (f := 64) (argl := [.pointer (some ⟨rp, 0, none⟩), .int .u8 (xa : Int), .int .u8 (xb : Int), .int .u8 (xc : Int), .int .i64 xn]) rfl rfl rfl Try.call64 rfl ?_
      intro w0 H0
      refine (RC.out _ _ (RefH.shut HL.out.1 HL.out.2 (H0.top3 (.there (.there (.there .here))) (.there (.there (.there .here))) (.there (.there (.there .here)))))).mono ?_
      clear H0
      rintro e w2 ⟨rfl, HH⟩
      obtain ⟨a2, n2, c2, b2, m2, d2, hl3, hl4, _, H1⟩ := HH.open3
      have HL2 := Lib.hid (And.intro hl3 hl4)
      refine ⟨_, _, rfl, H1, _, Keeps.refl _, fun t ht => by rw [List.mem_singleton.1 ht]; (repeat (first | (with_reducible exact List.mem_cons_self) | with_reducible apply List.mem_cons_of_mem)), ?_⟩
      clear H1 HH hl3 hl4
      (simp only [Act.put, List.setIfInBounds_toArray, List.set_cons_zero, List.set_cons_succ])
      iterate 2 (apply wpK_step; (· rfl); (· rfl); (· rfl); (· exact Nat.le_of_ble_eq_true rfl); (· intro l0 hs0 w0 H0; (first | go_big_quiet_skip | fail | go_big_quiet_step (fail)); (refine wpQuiet_nil ?_); (simp only [Array.getD_eq_getD_getElem?, List.getElem?_toArray, List.getElem?_cons_succ, List.getElem?_cons_zero, Option.getD_some]; rfl)); (simp only [Act.put, List.setIfInBounds_toArray, List.set_cons_zero, List.set_cons_succ]))
      (refine wpK_nil ?_; clear H; intro _ H)
      go_wp2_with (go_skip)
      go_ret
      rw [← HD.out]
      exact ⟨rfl, a2, n2, c2, b2, m2, d2, HL2.out.1, HL2.out.2, (H.drop (.there (.there (.there (.there (.there .here)))))).top2 (.there (.there (.there .here))) (.there (.there (.there .here)))⟩
  · have h8 : Int.tmod (xk : Int) 8 = 4 := by rw [Int.tmod_eq_emod_of_nonneg (by omega)]; omega
    by_cases hk : 128 ≤ xk
    · rw [if_pos hk] at hN
      have HD := Lib.hid (hD (pushS S xa xb xc N) (by simp [hr, doesS, doesN, hk, hN]))
      have hmin : min xn (roomOf S (xa : Int) (xb : Int) (xc : Int)) = N := hN.symm
      clear hD hroom hr hN
      generalize roomOf S (xa : Int) (xb : Int) (xc : Int) = r at *
      go_enter Try.func26, Try.ntmps26
      go_wp2_with (first | go_skip | ((with_reducible show wpList _ _ _ (_ :: _) _ _); (with_reducible apply wpl_boxRH); (· rfl); (· rfl); (· exact H); (clear H; intro px _ H); (simp only [Act.put, List.setIfInBounds_toArray, List.set_cons_zero, List.set_cons_succ])) | ((with_reducible refine AnsH.call (RM.out _) H ?_); clear H; intro _ H) | ((with_reducible show wpList _ _ _ (_ :: _) _ _); (with_reducible apply wpl_loadCH); (· first | exact cell_u8 | exact cell_party | exact cell_cur | exact cell_i64); (· rfl); (· rfl); (· exact H); (· (repeat (first | (with_reducible exact List.mem_cons_self) | with_reducible apply List.mem_cons_of_mem))); (· with_reducible first | exact act_g0 .. | exact act_g1 .. | exact act_g2 .. | exact act_g3 .. | exact act_g4 ..); (simp only [Act.put, List.setIfInBounds_toArray, List.set_cons_zero, List.set_cons_succ])))
      try rw [hmin]
      try go_wp2_with (go_skip)
      clear RM
      have LC := Lib.hid (fun (l' : List Thing) (w' : World) (h : Heap W (LdC p S.P (some q) :: LdM q S.L :: l') w') => lpush2_H (S := S) xa xb xc N o1 o2 o3 HNB.out HG.out (p := p) (q := q) (l := l') h)
      have RC := Lib.hid (fun (l' : List Thing) (w' : World) (h : RefH W l' rp S w') => rpushL_H (S := S) xa xb xc N o1 o2 o3 HNB.out HG.out h)
      have hb : (pushE S xa xb xc N == pushE S xa xb xc N) = true := by simp
      generalize hE : pushE S xa xb xc N = E at *
      clear hE
      generalize hS2 : pushS S xa xb xc N = S2 at *
      clear hS2
      refine wp_region_K [8, 17] [0, 1, 2, 3, 4, 5, 6, 7, 9, 10, 11, 12, 13, 14, 15, 16, 8, 17, 18, 19] [Cel px (act (xk : Int) (xa : Int) (xb : Int) (xc : Int) xn) 59] H (fun t ht => by rw [List.mem_singleton.1 ht]; (repeat (first | (with_reducible exact List.mem_cons_self) | with_reducible apply List.mem_cons_of_mem))) (by kernel_rfl) (by kernel_rfl) ?_
      iterate 16 (apply wpK_step; (· rfl); (· rfl); (· rfl); (· exact Nat.le_of_ble_eq_true rfl); (· intro l0 hs0 w0 H0; (first | go_big_quiet_skip | ((with_reducible apply wpQ_loadCH); (· first | exact cell_u8 | exact cell_party | exact cell_cur | exact cell_i64); (· rfl); (· rfl); (· exact hs0 _ (List.mem_singleton.2 rfl)); (· with_reducible first | exact act_g0 .. | exact act_g1 .. | exact act_g2 .. | exact act_g3 .. | exact act_g4 ..); (simp only [Act.put, List.setIfInBounds_toArray, List.set_cons_zero, List.set_cons_succ])) | go_big_quiet_step (fail)); (refine wpQuiet_nil ?_); (simp only [Array.getD_eq_getD_getElem?, List.getElem?_toArray, List.getElem?_cons_succ, List.getElem?_cons_zero, Option.getD_some]; rfl)); (simp only [Act.put, List.setIfInBounds_toArray, List.set_cons_zero, List.set_cons_succ]))
      refine wpK_call (f := 18) (argl := [.pointer (some ⟨p, 0, none⟩), .int .u8 (xa : Int), .int .u8 (xb : Int), .int .u8 (xc : Int), .int .i64 N]) rfl rfl rfl Try.call18 rfl ?_
      intro w0 H0
      refine (LC.out _ _ (H0.top2 (.there .here) (.there .here))).mono ?_
      clear H0
      rintro e w1 ⟨rfl, H1⟩
      refine ⟨_, _, rfl, H1, _, Keeps.refl _, fun t ht => by rw [List.mem_singleton.1 ht]; (repeat (first | (with_reducible exact List.mem_cons_self) | with_reducible apply List.mem_cons_of_mem)), ?_⟩
      clear H1
      (simp only [Act.put, List.setIfInBounds_toArray, List.set_cons_zero, List.set_cons_succ])
      refine wpK_call (f := 64) (argl := [.pointer (some ⟨rp, 0, none⟩), .int .u8 (xa : Int), .int .u8 (xb : Int), .int .u8 (xc : Int), .int .i64 N]) rfl rfl rfl Try.call64 rfl ?_
      intro w0 H0
      refine (RC.out _ _ (RefH.shut HL.out.1 HL.out.2 (H0.top3 (.there (.there (.there .here))) (.there (.there (.there .here))) (.there (.there (.there .here)))))).mono ?_
      clear H0
      rintro e w2 ⟨rfl, HH⟩
      obtain ⟨a2, n2, c2, b2, m2, d2, hl3, hl4, _, H1⟩ := HH.open3
      have HL2 := Lib.hid (And.intro hl3 hl4)
      refine ⟨_, _, rfl, H1, _, Keeps.refl _, fun t ht => by rw [List.mem_singleton.1 ht]; (repeat (first | (with_reducible exact List.mem_cons_self) | with_reducible apply List.mem_cons_of_mem)), ?_⟩
      clear H1 HH hl3 hl4
      (simp only [Act.put, List.setIfInBounds_toArray, List.set_cons_zero, List.set_cons_succ])
      iterate 2 (apply wpK_step; (· rfl); (· rfl); (· rfl); (· exact Nat.le_of_ble_eq_true rfl); (· intro l0 hs0 w0 H0; (first | go_big_quiet_skip | fail | go_big_quiet_step (fail)); (refine wpQuiet_nil ?_); (simp only [Array.getD_eq_getD_getElem?, List.getElem?_toArray, List.getElem?_cons_succ, List.getElem?_cons_zero, Option.getD_some]; rfl)); (simp only [Act.put, List.setIfInBounds_toArray, List.set_cons_zero, List.set_cons_succ]))
      (refine wpK_nil ?_; clear H; intro _ H)
      go_wp2_with (go_skip)
      go_ret
      rw [← HD.out]
      exact ⟨rfl, a2, n2, c2, b2, m2, d2, HL2.out.1, HL2.out.2, (H.drop (.there (.there (.there (.there (.there .here)))))).top2 (.there (.there (.there .here))) (.there (.there (.there .here)))⟩
    · rw [if_neg hk] at hN
      have HD := Lib.hid (hD (pushS S xa xb xc xn) (by simp [hr, doesS, doesN, hk]))
      subst N
      clear hD hroom hr RM
      go_enter Try.func26, Try.ntmps26
      go_wp2_with (first | go_skip | ((with_reducible show wpList _ _ _ (_ :: _) _ _); (with_reducible apply wpl_boxRH); (· rfl); (· rfl); (· exact H); (clear H; intro px _ H); (simp only [Act.put, List.setIfInBounds_toArray, List.set_cons_zero, List.set_cons_succ])) | ((with_reducible show wpList _ _ _ (_ :: _) _ _); (with_reducible apply wpl_loadCH); (· first | exact cell_u8 | exact cell_party | exact cell_cur | exact cell_i64); (· rfl); (· rfl); (· exact H); (· (repeat (first | (with_reducible exact List.mem_cons_self) | with_reducible apply List.mem_cons_of_mem))); (· with_reducible first | exact act_g0 .. | exact act_g1 .. | exact act_g2 .. | exact act_g3 .. | exact act_g4 ..); (simp only [Act.put, List.setIfInBounds_toArray, List.set_cons_zero, List.set_cons_succ])))
      have LC := Lib.hid (fun (l' : List Thing) (w' : World) (h : Heap W (LdC p S.P (some q) :: LdM q S.L :: l') w') => lpush2_H (S := S) xa xb xc xn o1 o2 o3 HNB.out HG.out (p := p) (q := q) (l := l') h)
      have RC := Lib.hid (fun (l' : List Thing) (w' : World) (h : RefH W l' rp S w') => rpushL_H (S := S) xa xb xc xn o1 o2 o3 HNB.out HG.out h)
      have hb : (pushE S xa xb xc xn == pushE S xa xb xc xn) = true := by simp
      generalize hE : pushE S xa xb xc xn = E at *
      clear hE
      generalize hS2 : pushS S xa xb xc xn = S2 at *
      clear hS2
      refine wp_region_K [8, 17] [0, 1, 2, 3, 4, 5, 6, 7, 9, 10, 11, 12, 13, 14, 15, 16, 8, 17, 18, 19] [Cel px (act (xk : Int) (xa : Int) (xb : Int) (xc : Int) xn) 59] H (fun t ht => by rw [List.mem_singleton.1 ht]; (repeat (first | (with_reducible exact List.mem_cons_self) | with_reducible apply List.mem_cons_of_mem))) (by kernel_rfl) (by kernel_rfl) ?_
      iterate 16 (apply wpK_step; (· rfl); (· rfl); (· rfl); (· exact Nat.le_of_ble_eq_true rfl); (· intro l0 hs0 w0 H0; (first | go_big_quiet_skip | ((with_reducible apply wpQ_loadCH); (· first | exact cell_u8 | exact cell_party | exact cell_cur | exact cell_i64); (· rfl); (· rfl); (· exact hs0 _ (List.mem_singleton.2 rfl)); (· with_reducible first | exact act_g0 .. | exact act_g1 .. | exact act_g2 .. | exact act_g3 .. | exact act_g4 ..); (simp only [Act.put, List.setIfInBounds_toArray, List.set_cons_zero, List.set_cons_succ])) | go_big_quiet_step (fail)); (refine wpQuiet_nil ?_); (simp only [Array.getD_eq_getD_getElem?, List.getElem?_toArray, List.getElem?_cons_succ, List.getElem?_cons_zero, Option.getD_some]; rfl)); (simp only [Act.put, List.setIfInBounds_toArray, List.set_cons_zero, List.set_cons_succ]))
      refine wpK_call (f := 18) (argl := [.pointer (some ⟨p, 0, none⟩), .int .u8 (xa : Int), .int .u8 (xb : Int), .int .u8 (xc : Int), .int .i64 xn]) rfl rfl rfl Try.call18 rfl ?_
      intro w0 H0
      refine (LC.out _ _ (H0.top2 (.there .here) (.there .here))).mono ?_
      clear H0
      rintro e w1 ⟨rfl, H1⟩
      refine ⟨_, _, rfl, H1, _, Keeps.refl _, fun t ht => by rw [List.mem_singleton.1 ht]; (repeat (first | (with_reducible exact List.mem_cons_self) | with_reducible apply List.mem_cons_of_mem)), ?_⟩
      clear H1
      (simp only [Act.put, List.setIfInBounds_toArray, List.set_cons_zero, List.set_cons_succ])
      refine wpK_call (f := 64) (argl := [.pointer (some ⟨rp, 0, none⟩), .int .u8 (xa : Int), .int .u8 (xb : Int), .int .u8 (xc : Int), .int .i64 xn]) rfl rfl rfl Try.call64 rfl ?_
      intro w0 H0
      refine (RC.out _ _ (RefH.shut HL.out.1 HL.out.2 (H0.top3 (.there (.there (.there .here))) (.there (.there (.there .here))) (.there (.there (.there .here)))))).mono ?_
      clear H0
      rintro e w2 ⟨rfl, HH⟩
      obtain ⟨a2, n2, c2, b2, m2, d2, hl3, hl4, _, H1⟩ := HH.open3
      have HL2 := Lib.hid (And.intro hl3 hl4)
      refine ⟨_, _, rfl, H1, _, Keeps.refl _, fun t ht => by rw [List.mem_singleton.1 ht]; (repeat (first | (with_reducible exact List.mem_cons_self) | with_reducible apply List.mem_cons_of_mem)), ?_⟩
      clear H1 HH hl3 hl4
      (simp only [Act.put, List.setIfInBounds_toArray, List.set_cons_zero, List.set_cons_succ])
      iterate 2 (apply wpK_step; (· rfl); (· rfl); (· rfl); (· exact Nat.le_of_ble_eq_true rfl); (· intro l0 hs0 w0 H0; (first | go_big_quiet_skip | fail | go_big_quiet_step (fail)); (refine wpQuiet_nil ?_); (simp only [Array.getD_eq_getD_getElem?, List.getElem?_toArray, List.getElem?_cons_succ, List.getElem?_cons_zero, Option.getD_some]; rfl)); (simp only [Act.put, List.setIfInBounds_toArray, List.set_cons_zero, List.set_cons_succ]))
      (refine wpK_nil ?_; clear H; intro _ H)
      go_wp2_with (go_skip)
      go_ret
      rw [← HD.out]
      exact ⟨rfl, a2, n2, c2, b2, m2, d2, HL2.out.1, HL2.out.2, (H.drop (.there (.there (.there (.there (.there .here)))))).top2 (.there (.there (.there .here))) (.there (.there (.there .here)))⟩
  · have h8 : Int.tmod (xk : Int) 8 = 5 := by rw [Int.tmod_eq_emod_of_nonneg (by omega)]; omega
    by_cases hk : 128 ≤ xk
    · rw [if_pos hk] at hN
      have HD := Lib.hid (hD (pushS S xa xb xc N) (by simp [hr, doesS, doesN, hk, hN]))
      have hmin : min xn (roomOf S (xa : Int) (xb : Int) (xc : Int)) = N := hN.symm
      clear hD hroom hr hN
      generalize roomOf S (xa : Int) (xb : Int) (xc : Int) = r at *
      go_enter Try.func26, Try.ntmps26
      go_wp2_with (first | go_skip | ((with_reducible show wpList _ _ _ (_ :: _) _ _); (with_reducible apply wpl_boxRH); (· rfl); (· rfl); (· exact H); (clear H; intro px _ H); (simp only [Act.put, List.setIfInBounds_toArray, List.set_cons_zero, List.set_cons_succ])) | ((with_reducible refine AnsH.call (RM.out _) H ?_); clear H; intro _ H) | ((with_reducible show wpList _ _ _ (_ :: _) _ _); (with_reducible apply wpl_loadCH); (· first | exact cell_u8 | exact cell_party | exact cell_cur | exact cell_i64); (· rfl); (· rfl); (· exact H); (· (repeat (first | (with_reducible exact List.mem_cons_self) | with_reducible apply List.mem_cons_of_mem))); (· with_reducible first | exact act_g0 .. | exact act_g1 .. | exact act_g2 .. | exact act_g3 .. | exact act_g4 ..); (simp only [Act.put, List.setIfInBounds_toArray, List.set_cons_zero, List.set_cons_succ])))
      try rw [hmin]
      try go_wp2_with (go_skip)
      clear RM
      have LC := Lib.hid (fun (l' : List Thing) (w' : World) (h : Heap W (LdC p S.P (some q) :: LdM q S.L :: l') w') => lpush2_H (S := S) xa xb xc N o1 o2 o3 HNB.out HG.out (p := p) (q := q) (l := l') h)
      have RC := Lib.hid (fun (l' : List Thing) (w' : World) (h : RefH W l' rp S w') => rpushL_H (S := S) xa xb xc N o1 o2 o3 HNB.out HG.out h)
      have hb : (pushE S xa xb xc N == pushE S xa xb xc N) = true := by simp
      generalize hE : pushE S xa xb xc N = E at *
      clear hE
      generalize hS2 : pushS S xa xb xc N = S2 at *
      clear hS2
      refine wp_region_K [8, 17] [0, 1, 2, 3, 4, 5, 6, 7, 9, 10, 11, 12, 13, 14, 15, 16, 8, 17, 18, 19] [Cel px (act (xk : Int) (xa : Int) (xb : Int) (xc : Int) xn) 59] H (fun t ht => by rw [List.mem_singleton.1 ht]; (repeat (first | (with_reducible exact List.mem_cons_self) | with_reducible apply List.mem_cons_of_mem))) (by kernel_rfl) (by kernel_rfl) ?_
      iterate 16 (apply wpK_step; (· rfl); (· rfl); (· rfl); (· exact Nat.le_of_ble_eq_true rfl); (· intro l0 hs0 w0 H0; (first | go_big_quiet_skip | ((with_reducible apply wpQ_loadCH); (· first | exact cell_u8 | exact cell_party | exact cell_cur | exact cell_i64); (· rfl); (· rfl); (· exact hs0 _ (List.mem_singleton.2 rfl)); (· with_reducible first | exact act_g0 .. | exact act_g1 .. | exact act_g2 .. | exact act_g3 .. | exact act_g4 ..); (simp only [Act.put, List.setIfInBounds_toArray, List.set_cons_zero, List.set_cons_succ])) | go_big_quiet_step (fail)); (refine wpQuiet_nil ?_); (simp only [Array.getD_eq_getD_getElem?, List.getElem?_toArray, List.getElem?_cons_succ, List.getElem?_cons_zero, Option.getD_some]; rfl)); (simp only [Act.put, List.setIfInBounds_toArray, List.set_cons_zero, List.set_cons_succ]))
      refine wpK_call (f := 18) (argl := [.pointer (some ⟨p, 0, none⟩), .int .u8 (xa : Int), .int .u8 (xb : Int), .int .u8 (xc : Int), .int .i64 N]) rfl rfl rfl Try.call18 rfl ?_
      intro w0 H0
      refine (LC.out _ _ (H0.top2 (.there .here) (.there .here))).mono ?_
      clear H0
      rintro e w1 ⟨rfl, H1⟩
      refine ⟨_, _, rfl, H1, _, Keeps.refl _, fun t ht => by rw [List.mem_singleton.1 ht]; (repeat (first | (with_reducible exact List.mem_cons_self) | with_reducible apply List.mem_cons_of_mem)), ?_⟩
      clear H1
      (simp only [Act.put, List.setIfInBounds_toArray, List.set_cons_zero, List.set_cons_succ])
      refine wpK_call (f := 64) (argl := [.pointer (some ⟨rp, 0, none⟩), .int .u8 (xa : Int), .int .u8 (xb : Int), .int .u8 (xc : Int), .int .i64 N]) rfl rfl rfl Try.call64 rfl ?_
      intro w0 H0
      refine (RC.out _ _ (RefH.shut HL.out.1 HL.out.2 (H0.top3 (.there (.there (.there .here))) (.there (.there (.there .here))) (.there (.there (.there .here)))))).mono ?_
      clear H0
      rintro e w2 ⟨rfl, HH⟩
      obtain ⟨a2, n2, c2, b2, m2, d2, hl3, hl4, _, H1⟩ := HH.open3
      have HL2 := Lib.hid (And.intro hl3 hl4)
      refine ⟨_, _, rfl, H1, _, Keeps.refl _, fun t ht => by rw [List.mem_singleton.1 ht]; (repeat (first | (with_reducible exact List.mem_cons_self) | with_reducible apply List.mem_cons_of_mem)), ?_⟩
      clear H1 HH hl3 hl4
      (simp only [Act.put, List.setIfInBounds_toArray, List.set_cons_zero, List.set_cons_succ])
      iterate 2 (apply wpK_step; (· rfl); (· rfl); (· rfl); (· exact Nat.le_of_ble_eq_true rfl); (· intro l0 hs0 w0 H0; (first | go_big_quiet_skip | fail | go_big_quiet_step (fail)); (refine wpQuiet_nil ?_); (simp only [Array.getD_eq_getD_getElem?, List.getElem?_toArray, List.getElem?_cons_succ, List.getElem?_cons_zero, Option.getD_some]; rfl)); (simp only [Act.put, List.setIfInBounds_toArray, List.set_cons_zero, List.set_cons_succ]))
      (refine wpK_nil ?_; clear H; intro _ H)
      go_wp2_with (go_skip)
      go_ret
      rw [← HD.out]
      exact ⟨rfl, a2, n2, c2, b2, m2, d2, HL2.out.1, HL2.out.2, (H.drop (.there (.there (.there (.there (.there .here)))))).top2 (.there (.there (.there .here))) (.there (.there (.there .here)))⟩
    · rw [if_neg hk] at hN
      have HD := Lib.hid (hD (pushS S xa xb xc xn) (by simp [hr, doesS, doesN, hk]))
      subst N
      clear hD hroom hr RM
      go_enter Try.func26, Try.ntmps26
      go_wp2_with (first | go_skip | ((with_reducible show wpList _ _ _ (_ :: _) _ _); (with_reducible apply wpl_boxRH); (· rfl); (· rfl); (· exact H); (clear H; intro px _ H); (simp only [Act.put, List.setIfInBounds_toArray, List.set_cons_zero, List.set_cons_succ])) | ((with_reducible show wpList _ _ _ (_ :: _) _ _); (with_reducible apply wpl_loadCH); (· first | exact cell_u8 | exact cell_party | exact cell_cur | exact cell_i64); (· rfl); (· rfl); (· exact H); (· (repeat (first | (with_reducible exact List.mem_cons_self) | with_reducible apply List.mem_cons_of_mem))); (· with_reducible first | exact act_g0 .. | exact act_g1 .. | exact act_g2 .. | exact act_g3 .. | exact act_g4 ..); (simp only [Act.put, List.setIfInBounds_toArray, List.set_cons_zero, List.set_cons_succ])))
      have LC := Lib.hid (fun (l' : List Thing) (w' : World) (h : Heap W (LdC p S.P (some q) :: LdM q S.L :: l') w') => lpush2_H (S := S) xa xb xc xn o1 o2 o3 HNB.out HG.out (p := p) (q := q) (l := l') h)
      have RC := Lib.hid (fun (l' : List Thing) (w' : World) (h : RefH W l' rp S w') => rpushL_H (S := S) xa xb xc xn o1 o2 o3 HNB.out HG.out h)
      have hb : (pushE S xa xb xc xn == pushE S xa xb xc xn) = true := by simp
      generalize hE : pushE S xa xb xc xn = E at *
      clear hE
      generalize hS2 : pushS S xa xb xc xn = S2 at *
      clear hS2
      refine wp_region_K [8, 17] [0, 1, 2, 3, 4, 5, 6, 7, 9, 10, 11, 12, 13, 14, 15, 16, 8, 17, 18, 19] [Cel px (act (xk : Int) (xa : Int) (xb : Int) (xc : Int) xn) 59] H (fun t ht => by rw [List.mem_singleton.1 ht]; (repeat (first | (with_reducible exact List.mem_cons_self) | with_reducible apply List.mem_cons_of_mem))) (by kernel_rfl) (by kernel_rfl) ?_
      iterate 16 (apply wpK_step; (· rfl); (· rfl); (· rfl); (· exact Nat.le_of_ble_eq_true rfl); (· intro l0 hs0 w0 H0; (first | go_big_quiet_skip | ((with_reducible apply wpQ_loadCH); (· first | exact cell_u8 | exact cell_party | exact cell_cur | exact cell_i64); (· rfl); (· rfl); (· exact hs0 _ (List.mem_singleton.2 rfl)); (· with_reducible first | exact act_g0 .. | exact act_g1 .. | exact act_g2 .. | exact act_g3 .. | exact act_g4 ..); (simp only [Act.put, List.setIfInBounds_toArray, List.set_cons_zero, List.set_cons_succ])) | go_big_quiet_step (fail)); (refine wpQuiet_nil ?_); (simp only [Array.getD_eq_getD_getElem?, List.getElem?_toArray, List.getElem?_cons_succ, List.getElem?_cons_zero, Option.getD_some]; rfl)); (simp only [Act.put, List.setIfInBounds_toArray, List.set_cons_zero, List.set_cons_succ]))
      refine wpK_call (f := 18) (argl := [.pointer (some ⟨p, 0, none⟩), .int .u8 (xa : Int), .int .u8 (xb : Int), .int .u8 (xc : Int), .int .i64 xn]) rfl rfl rfl Try.call18 rfl ?_
      intro w0 H0
      refine (LC.out _ _ (H0.top2 (.there .here) (.there .here))).mono ?_
      clear H0
      rintro e w1 ⟨rfl, H1⟩
      refine ⟨_, _, rfl, H1, _, Keeps.refl _, fun t ht => by rw [List.mem_singleton.1 ht]; (repeat (first | (with_reducible exact List.mem_cons_self) | with_reducible apply List.mem_cons_of_mem)), ?_⟩
      clear H1
      (simp only [Act.put, List.setIfInBounds_toArray, List.set_cons_zero, List.set_cons_succ])
      refine wpK_call (f := 64) (argl := [.pointer (some ⟨rp, 0, none⟩), .int .u8 (xa : Int), .int .u8 (xb : Int), .int .u8 (xc : Int), .int .i64 xn]) rfl rfl rfl Try.call64 rfl ?_
      intro w0 H0
      refine (RC.out _ _ (RefH.shut HL.out.1 HL.out.2 (H0.top3 (.there (.there (.there .here))) (.there (.there (.there .here))) (.there (.there (.there .here)))))).mono ?_
      clear H0
      rintro e w2 ⟨rfl, HH⟩
      obtain ⟨a2, n2, c2, b2, m2, d2, hl3, hl4, _, H1⟩ := HH.open3
      have HL2 := Lib.hid (And.intro hl3 hl4)
      refine ⟨_, _, rfl, H1, _, Keeps.refl _, fun t ht => by rw [List.mem_singleton.1 ht]; (repeat (first | (with_reducible exact List.mem_cons_self) | with_reducible apply List.mem_cons_of_mem)), ?_⟩
      clear H1 HH hl3 hl4
      (simp only [Act.put, List.setIfInBounds_toArray, List.set_cons_zero, List.set_cons_succ])
      iterate 2 (apply wpK_step; (· rfl); (· rfl); (· rfl); (· exact Nat.le_of_ble_eq_true rfl); (· intro l0 hs0 w0 H0; (first | go_big_quiet_skip | fail | go_big_quiet_step (fail)); (refine wpQuiet_nil ?_); (simp only [Array.getD_eq_getD_getElem?, List.getElem?_toArray, List.getElem?_cons_succ, List.getElem?_cons_zero, Option.getD_some]; rfl)); (simp only [Act.put, List.setIfInBounds_toArray, List.set_cons_zero, List.set_cons_succ]))
      (refine wpK_nil ?_; clear H; intro _ H)
      go_wp2_with (go_skip)
      go_ret
      rw [← HD.out]
      exact ⟨rfl, a2, n2, c2, b2, m2, d2, HL2.out.1, HL2.out.2, (H.drop (.there (.there (.there (.there (.there .here)))))).top2 (.there (.there (.there .here))) (.there (.there (.there .here)))⟩
  · have h8 : Int.tmod (xk : Int) 8 = 6 := by rw [Int.tmod_eq_emod_of_nonneg (by omega)]; omega
    have HD := Lib.hid (hD (forgS S xa xb xc xn) (by simp [hr, doesS]))
    clear hD hN hroom RM HNB hr
    go_enter Try.func26, Try.ntmps26
    go_wp2_with (first | go_skip | ((with_reducible show wpList _ _ _ (_ :: _) _ _); (with_reducible apply wpl_boxRH); (· rfl); (· rfl); (· exact H); (clear H; intro px _ H); (simp only [Act.put, List.setIfInBounds_toArray, List.set_cons_zero, List.set_cons_succ])) | ((with_reducible show wpList _ _ _ (_ :: _) _ _); (with_reducible apply wpl_loadCH); (· first | exact cell_u8 | exact cell_party | exact cell_cur | exact cell_i64); (· rfl); (· rfl); (· exact H); (· (repeat (first | (with_reducible exact List.mem_cons_self) | with_reducible apply List.mem_cons_of_mem))); (· with_reducible first | exact act_g0 .. | exact act_g1 .. | exact act_g2 .. | exact act_g3 .. | exact act_g4 ..); (simp only [Act.put, List.setIfInBounds_toArray, List.set_cons_zero, List.set_cons_succ])))
    have LC := Lib.hid (fun (l' : List Thing) (w' : World) (h : Heap W (LdC p S.P (some q) :: LdM q S.L :: l') w') => lforg2_H (S := S) xa xb xc xn o1 o2 o3 HO.out HG.out (p := p) (q := q) (l := l') h)
    have RC := Lib.hid (fun (l' : List Thing) (w' : World) (h : RefH W l' rp S w') => rforg_H (S := S) xa xb xc xn o1 o2 o3 HO.out HG.out h)
    have hb : (forgE S xa xb xc xn == forgE S xa xb xc xn) = true := by simp
    generalize hE : forgE S xa xb xc xn = E at *
    clear hE
    generalize hS2 : forgS S xa xb xc xn = S2 at *
    clear hS2
    refine wp_region_K [9, 19] [0, 1, 2, 3, 4, 5, 6, 7, 8, 10, 11, 12, 13, 14, 15, 16, 17, 18, 9, 19, 20, 21] [Cel px (act (xk : Int) (xa : Int) (xb : Int) (xc : Int) xn) 59] H (fun t ht => by rw [List.mem_singleton.1 ht]; (repeat (first | (with_reducible exact List.mem_cons_self) | with_reducible apply List.mem_cons_of_mem))) (by kernel_rfl) (by kernel_rfl) ?_
    iterate 18 (apply wpK_step; (· rfl); (· rfl); (· rfl); (· exact Nat.le_of_ble_eq_true rfl); (· intro l0 hs0 w0 H0; (first | go_big_quiet_skip | ((with_reducible apply wpQ_loadCH); (· first | exact cell_u8 | exact cell_party | exact cell_cur | exact cell_i64); (· rfl); (· rfl); (· exact hs0 _ (List.mem_singleton.2 rfl)); (· with_reducible first | exact act_g0 .. | exact act_g1 .. | exact act_g2 .. | exact act_g3 .. | exact act_g4 ..); (simp only [Act.put, List.setIfInBounds_toArray, List.set_cons_zero, List.set_cons_succ])) | go_big_quiet_step (fail)); (refine wpQuiet_nil ?_); (simp only [Array.getD_eq_getD_getElem?, List.getElem?_toArray, List.getElem?_cons_succ, List.getElem?_cons_zero, Option.getD_some]; rfl)); (simp only [Act.put, List.setIfInBounds_toArray, List.set_cons_zero, List.set_cons_succ]))
    refine wpK_call (f := 51) (argl := [.pointer (some ⟨p, 0, none⟩), .int .u8 (xa : Int), .int .u8 (xb : Int), .int .u8 (xc : Int), .int .i64 xn]) rfl rfl rfl Try.call51 rfl ?_
    intro w0 H0
    refine (LC.out _ _ (H0.top2 (.there .here) (.there .here))).mono ?_
    clear H0
    rintro e w1 ⟨rfl, H1⟩
    refine ⟨_, _, rfl, H1, _, Keeps.refl _, fun t ht => by rw [List.mem_singleton.1 ht]; (repeat (first | (with_reducible exact List.mem_cons_self) | with_reducible apply List.mem_cons_of_mem)), ?_⟩
    clear H1
    (simp only [Act.put, List.setIfInBounds_toArray, List.set_cons_zero, List.set_cons_succ])
    refine wpK_call (f := 65) (argl := [.pointer (some ⟨rp, 0, none⟩), .int .u8 (xa : Int), .int .u8 (xb : Int), .int .u8 (xc : Int), .int .i64 xn]) rfl rfl rfl Try.call65 rfl ?_
    intro w0 H0
    refine (RC.out _ _ (RefH.shut HL.out.1 HL.out.2 (H0.top3 (.there (.there (.there .here))) (.there (.there (.there .here))) (.there (.there (.there .here)))))).mono ?_
    clear H0
    rintro e w2 ⟨rfl, HH⟩
    obtain ⟨a2, n2, c2, b2, m2, d2, hl3, hl4, _, H1⟩ := HH.open3
    have HL2 := Lib.hid (And.intro hl3 hl4)
    refine ⟨_, _, rfl, H1, _, Keeps.refl _, fun t ht => by rw [List.mem_singleton.1 ht]; (repeat (first | (with_reducible exact List.mem_cons_self) | with_reducible apply List.mem_cons_of_mem)), ?_⟩
    clear H1 HH hl3 hl4
    (simp only [Act.put, List.setIfInBounds_toArray, List.set_cons_zero, List.set_cons_succ])
    iterate 2 (apply wpK_step; (· rfl); (· rfl); (· rfl); (· exact Nat.le_of_ble_eq_true rfl); (· intro l0 hs0 w0 H0; (first | go_big_quiet_skip | fail | go_big_quiet_step (fail)); (refine wpQuiet_nil ?_); (simp only [Array.getD_eq_getD_getElem?, List.getElem?_toArray, List.getElem?_cons_succ, List.getElem?_cons_zero, Option.getD_some]; rfl)); (simp only [Act.put, List.setIfInBounds_toArray, List.set_cons_zero, List.set_cons_succ]))
    (refine wpK_nil ?_; clear H; intro _ H)
    go_wp2_with (go_skip)
    go_ret
    rw [← HD.out]
    exact ⟨rfl, a2, n2, c2, b2, m2, d2, HL2.out.1, HL2.out.2, (H.drop (.there (.there (.there (.there (.there .here)))))).top2 (.there (.there (.there .here))) (.there (.there (.there .here)))⟩
  · have h8 : Int.tmod (xk : Int) 8 = 7 := by rw [Int.tmod_eq_emod_of_nonneg (by omega)]; omega
    have HD := Lib.hid (hD S (by simp [hr, doesS]))
    clear hD hN hroom RM HNB
    go_enter Try.func26, Try.ntmps26
    go_wp2_with (first | go_skip | ((with_reducible show wpList _ _ _ (_ :: _) _ _); (with_reducible apply wpl_boxRH); (· rfl); (· rfl); (· exact H); (clear H; intro px _ H); (simp only [Act.put, List.setIfInBounds_toArray, List.set_cons_zero, List.set_cons_succ])) | ((with_reducible show wpList _ _ _ (_ :: _) _ _); (with_reducible apply wpl_loadCH); (· first | exact cell_u8 | exact cell_party | exact cell_cur | exact cell_i64); (· rfl); (· rfl); (· exact H); (· (repeat (first | (with_reducible exact List.mem_cons_self) | with_reducible apply List.mem_cons_of_mem))); (· with_reducible first | exact act_g0 .. | exact act_g1 .. | exact act_g2 .. | exact act_g3 .. | exact act_g4 ..); (simp only [Act.put, List.setIfInBounds_toArray, List.set_cons_zero, List.set_cons_succ])))
    go_ret
    rw [← HD.out]
    exact ⟨rfl, a, n, c, b, m, d, HL.out.1, HL.out.2, H.tail⟩
end
end Go.Proofs.Ytgobnamhdkbbeaa
