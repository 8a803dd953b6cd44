/- LedgersTold: what is told wrong is refused. -/
import Derived.Test.YtacglcpjbepfnaaLedOf
import Derived.Test.YtacglcpjbepfnaaSameQ
import Derived.Test.YtacglcpjbepfnaaRegCut
import Derived.Test.YtacglcpjbepfnaaLawLedgersPush
namespace Go.Proofs.Ytacglcpjbepfnaa
open Go.RowKit
set_option linter.unusedSimpArgs false
set_option linter.unusedVariables false
theorem linL_setDeb (d : Int) : ∀ (X : List Lin) (k : Nat) (x : Lin), X[k]? = some x → (linL X).set (k * 5 + 4) (.int .i64 d) = linL (X.set k { x with deb := d })
  | [], _, _, h => by simp at h
  | y :: X, 0, x, h => by
    simp at h
    subst h
    rfl
  | y :: X, k + 1, x, h => by
    simp at h
    have := linL_setDeb d X k x h
    show (linV y ++ linL X).set ((k + 1) * 5 + 4) _ = linV y ++ linL (X.set k _)
    rw [← this, show (k + 1) * 5 + 4 = (k * 5 + 4) + 5 by omega]
    simp [linV]
theorem linL_setCr (d : Int) : ∀ (X : List Lin) (k : Nat) (x : Lin), X[k]? = some x → (linL X).set (k * 5) (.int .u8 d) = linL (X.set k { x with cr := d })
  | [], _, _, h => by simp at h
  | y :: X, 0, x, h => by
    simp at h
    subst h
    rfl
  | y :: X, k + 1, x, h => by
    simp at h
    have := linL_setCr d X k x h
    show (linV y ++ linL X).set ((k + 1) * 5) _ = linV y ++ linL (X.set k _)
    rw [← this, show (k + 1) * 5 = (k * 5) + 5 by omega]
    simp [linV]
theorem rd_take {w : World} {a : Option Addr} {xs : List Value} (h : Rd w a xs) (n : Nat) : Rd w a (xs.take n) := fun i hi => by
  have hi2 : i < xs.length := by rw [List.length_take] at hi; omega
  obtain ⟨b, o, e, hc⟩ := h i hi2
  exact ⟨b, o, e, by rw [hc, List.getElem_take]⟩
theorem linL_take {X : List Lin} {j : Nat} (h : j ≤ X.length) : (linL X).take (j * 5) = linL (X.take j) := by
  have e : linL X = linL (X.take j) ++ linL (X.drop j) := by rw [← linL_app, List.take_append_drop]
  rw [e]
  exact List.take_left' (by rw [linL_len, List.length_take, Nat.min_eq_left h])
theorem linL_drop {X : List Lin} {j : Nat} (h : j ≤ X.length) : (linL X).drop (j * 5) = linL (X.drop j) := by
  have e : linL X = linL (X.take j) ++ linL (X.drop j) := by rw [← linL_app, List.take_append_drop]
  rw [e]
  exact List.drop_left' (by rw [linL_len, List.length_take, Nat.min_eq_left h])
theorem linL_cell1 {L : List Lin} {k : Nat} {x : Lin} (h : L[k]? = some x) : (linL L)[k * 5 + 1]? = some (.int .u8 x.db) ∧ (linL L)[k * 5 + 3]? = some (.int .i64 x.lim) := by
  obtain ⟨hk, rfl⟩ := List.getElem?_eq_some_iff.1 h
  have h1 := linL_at L k hk
  have key : ∀ j, j < 5 → (linL L)[k * 5 + j]? = (linV L[k])[j]? := fun j hj => by
    rw [← h1, List.getElem?_take, if_pos hj, List.getElem?_drop]
  exact ⟨by rw [key 1 (by omega)]; rfl, by rw [key 3 (by omega)]; rfl⟩
theorem rd_at {w : World} {xs : List Value} {b i : Nat} {v : Value} (R : Rd w (some ⟨b, 0, none⟩) xs) (h : xs[i]? = some v) : w.cell? ⟨b, i, none⟩ = some v := by
  obtain ⟨hi, rfl⟩ := List.getElem?_eq_some_iff.1 h
  have := R.get hi
  rwa [Nat.zero_add] at this
theorem set_args {X : List Lin} {k : Nat} {y : Lin} (h : ∀ x ∈ X, LinArg x) (hy : LinArg y) : ∀ x ∈ X.set k y, LinArg x := fun x hx => by
  rcases List.mem_or_eq_of_mem_set hx with hx | rfl
  · exact h x hx
  · exact hy
theorem told_set {P : List Int} {X : List Lin} {k : Nat} {y : Lin} (hk : k < X.length) (h : ¬ LinOk P y) : ¬ (⟨P, X.set k y⟩ : Lgr).Good := fun G => h (G.ok y (List.mem_of_getElem? (i := k) (by simp [hk])))
theorem row_form {w : World} {e size n : Nat} {v : Value} {xs : List Value} (h : (RowT e size v n xs).ok w) : ∃ a c, v = .slice a n c := by
  rcases h.2 with ⟨rfl, rfl⟩ | ⟨g, cap, cur, rfl, _, _, hnc, hcm, _⟩
  · exact ⟨_, _, rfl⟩
  · exact ⟨_, _, rfl⟩
theorem told_twice {P : List Int} {X : List Lin} {k : Nat} {x : Lin} (h : X[k]? = some x) : ¬ (⟨P, X.take (k + 1) ++ X.drop k⟩ : Lgr).Good := fun G => by
  have h1 := (List.pairwise_append.1 G.ord).2.2 x (by rw [take_snoc' h]; simp) x (by
    obtain ⟨hk, rfl⟩ := List.getElem?_eq_some_iff.1 h
    rw [List.drop_eq_getElem_cons hk]
    exact List.mem_cons_self)
  omega
theorem Lgr.Good.args {S : Lgr} (G : S.Good) : ∀ x ∈ S.L, LinArg x := fun x hx => by
  have h1 := G.small hx
  have h2 := G.ok x hx
  have h3 := h2.cu
  have h4 := h2.lim
  have h5 := h2.deb
  unfold LinArg
  omega
section
variable {W w : World} {l : List Thing} {p q : Nat} {S : Lgr}
set_option maxRecDepth 100000
set_option maxHeartbeats 8000000
theorem lparR (G : S.Good) (H : Heap W l w) (hm : LdC p S.P (some q) ∈ l) : Calls Try.prog 43 #[.pointer (some ⟨p, 0, none⟩)] w fun e w' => ∃ a cc, e = .returned (.slice a S.P.length S.P.length) ∧ Heap W (RowT 23 1 (.slice a S.P.length cc) S.P.length (pI S.P) :: l) w' := by
  refine (lparties_H (p := p) (q := q) G.par G.par1 H hm).mono ?_
  rintro e w' (⟨h0, rfl, H⟩ | ⟨_, g, cc, rfl, _, H⟩)
  · refine ⟨none, 0, by rw [h0], ?_⟩
    have := H.nilRow 23 1
    rw [h0, List.eq_nil_of_length_eq_zero h0]
    exact this
  · exact ⟨_, _, rfl, H⟩
/-- Of, of what may not be. -/
theorem lof_no (pa xa : Option Addr) (pn pc xn xc : Nat) (P : List Int) (X : List Lin) (hp : P.length = pn) (hx : X.length = xn) (hpm : pn ≤ 1000000) (hxm : xn ≤ 64) (hG : goodPs P) (hX : ∀ x ∈ X, LinArg x) (hN : ¬ (⟨P, X⟩ : Lgr).Good)
    (RP : ∀ l' w', (∀ x ∈ l, x ∈ l') → Heap W l' w' → Rd w' pa (pI P)) (RX : ∀ l' w', (∀ x ∈ l, x ∈ l') → Heap W l' w' → Rd w' xa (linL X)) (H : Heap W l w) :
    Calls Try.prog 26 #[.slice pa pn pc, .slice xa xn xc] w fun e w' => e = .returned (.tuple #[.pointer none, .int .i64 1]) ∧ Heap W l w' := by
  refine (lof_H pa xa pn pc xn xc P X hp hx hpm (by omega) (fun x hx => by have := hG.2 x hx; omega) hX RP RX H).mono ?_
  rintro e w' (⟨rfl, _, H⟩ | ⟨_, _, h, _⟩ | ⟨_, _, _, g, _⟩)
  · exact ⟨rfl, H⟩
  · omega
  · exact absurd g hN
theorem lof_bad (pa xa : Option Addr) (pn pc xn xc : Nat) (P : List Int) (X : List Lin) (hp : P.length = pn) (hx : X.length = xn) (hpm : pn ≤ 1000000) (hxm : xn ≤ 1000000) (hG : goodPs P) (hX : ∀ x ∈ X, LinArg x) (hN : ¬ (⟨P, X⟩ : Lgr).Good)
    (RP : ∀ l' w', (∀ x ∈ l, x ∈ l') → Heap W l' w' → Rd w' pa (pI P)) (RX : ∀ l' w', (∀ x ∈ l, x ∈ l') → Heap W l' w' → Rd w' xa (linL X)) (H : Heap W l w) :
    Calls Try.prog 26 #[.slice pa pn pc, .slice xa xn xc] w fun e w' => ∃ z : Int, e = .returned (.tuple #[.pointer none, .int .i64 z]) ∧ (z = 1 ∨ z = 9 ∧ 64 < xn) ∧ Heap W l w' := by
  refine (lof_H pa xa pn pc xn xc P X hp hx hpm hxm (fun x hx => by have := hG.2 x hx; omega) hX RP RX H).mono ?_
  rintro e w' (⟨rfl, _, H⟩ | ⟨rfl, _, h, H⟩ | ⟨_, _, _, g, _⟩)
  · exact ⟨1, rfl, .inl rfl, H⟩
  · exact ⟨9, rfl, .inr ⟨rfl, by omega⟩, H⟩
  · exact absurd g hN
end
set_option maxRecDepth 100000
set_option maxHeartbeats 8000000
theorem ledgersTold_great (w : World) (ea : Option Addr) (an ac s : Nat) (hn : 120 < an) (hm : an ≤ maxLen) :
    Calls Try.prog 8 #[.slice ea an ac, .int .u8 (s : Int)] w fun e w' => e = .returned (.bool true) ∧ Below w.heap.size w w' := by
  have H := Heap.start w
  have hcnt : 120 < (an : Int) := by omega
  unfold maxLen at hm
  go_enter Try.func8, Try.ntmps8
  go_wp2_with (first | go_skip)
  refine (lives03_H H).mono ?_
  clear H
  rintro e w7 ⟨rfl, H⟩
  go_wp2_with (go_skip)
  go_ret
  exact ⟨rfl, H.low⟩
theorem ledgersTold_main (w : World) (ea : Option Addr) (an ac s : Nat) (F : List LAct) (hl : F.length = an) (hn : an ≤ 120) (hF : ∀ x ∈ F, ActOk x) (R : Rd w ea (actL F)) (hs : s ≤ 255) :
    Calls Try.prog 8 #[.slice ea an ac, .int .u8 (s : Int)] w fun e w' => e = .returned (.bool true) ∧ Below w.heap.size w w' := by
  have H := Heap.start w
  have hcnt : ¬ (120 < (an : Int)) := by omega
  have HR := Lib.hid R
  have HL := Lib.hid hl
  have HF := Lib.hid hF
  clear R hl hF
  go_enter Try.func8, Try.ntmps8
  go_wp2_with (first | go_skip)
  refine (made_H ea an ac F HL.out hn HF.out (fun l' w' _ H' => HR.out.below H'.low) H).mono ?_
  clear H
  rintro e w1 ⟨p, q, rfl, H⟩
  have HG := Lib.hid (madeS_good F)
  generalize hS : madeS F = S at *
  clear hS hcnt
  have hfew := HG.out.few
  have hf16 := HG.out.few16
  go_wp2_with (go_skip)
  refine (lparR (p := p) (q := q) HG.out H (by (repeat (first | (with_reducible exact List.mem_cons_self) | with_reducible apply List.mem_cons_of_mem)))).mono ?_
  clear H
  rintro e w2 ⟨a1, cc1, rfl, H⟩
  go_wp2_with (go_skip)
  refine (llines_H (p := p) (q := q) HG.out (H.top2 (.there .here) (.there .here))).mono ?_
  clear H
  rintro e w3 ⟨g1, c1, rfl, hc1, hm1, H⟩
  obtain ⟨P, X⟩ := S
  simp only at H hfew hf16 hc1
  obtain ⟨m, hm⟩ : ∃ m, P.length = m := ⟨_, rfl⟩
  obtain ⟨n, hx⟩ : ∃ n, X.length = n := ⟨_, rfl⟩
  simp only [hm, hx] at H hfew hf16 hc1 ⊢
  have HM := Lib.hid hm
  have HX := Lib.hid hx
  have HGP := Lib.hid (show goodPs P from ⟨HG.out.par, HG.out.par1⟩)
  have HXA := Lib.hid (show ∀ x ∈ X, LinArg x from HG.out.args)
  clear hm hx
  go_wp2_with (go_skip)
  refine (lof_H a1 (some ⟨g1, 0, none⟩) m m n c1 P X HM.out HX.out (by omega) (by omega) (fun x hx => by have := HGP.out.2 x hx; omega) HXA.out (fun l' w' hs H' => H'.rowRd (hs _ (by (repeat (first | (with_reducible exact List.mem_cons_self) | with_reducible apply List.mem_cons_of_mem)) : RowT 23 1 (.slice a1 m cc1) m (pI P) ∈ _))) (fun l' w' hs H' => H'.slRd (hs _ List.mem_cons_self)) H).mono ?_
  clear H
  rintro e w4 (⟨_, h | h, _⟩ | ⟨_, _, h, _⟩ | ⟨p', q', rfl, _, H⟩)
  · exact absurd HGP.out h
  · exact absurd HG.out h.2
  · have := HX.out; omega
  go_wp2_with (go_skip)
  refine (lparR (p := p') (q := q') HG.out H (by (repeat (first | (with_reducible exact List.mem_cons_self) | with_reducible apply List.mem_cons_of_mem)))).mono ?_
  clear H
  rintro e w5 ⟨a2, cc2, rfl, H⟩
  simp only [HM.out] at H ⊢
  go_wp2_with (go_skip)
  refine (sameParties_Q (W := w) a2 a1 m m m m HM.out HM.out (by omega) (by omega) (fun w' H' => H'.rowRd (by (repeat (first | (with_reducible exact List.mem_cons_self) | with_reducible apply List.mem_cons_of_mem)) : RowT 23 1 (.slice a2 m cc2) m (pI P) ∈ _)) (fun w' H' => H'.rowRd (by (repeat (first | (with_reducible exact List.mem_cons_self) | with_reducible apply List.mem_cons_of_mem)) : RowT 23 1 (.slice a1 m cc1) m (pI P) ∈ _)) _ H).mono ?_
  clear H
  rintro e w6 ⟨rfl, H⟩
  rw [decide_eq_true rfl]
  go_wp2_with (go_skip)
  refine (llines_H (p := p') (q := q') (S := ⟨P, X⟩) HG.out (H.top2 (.there .here) (.there .here))).mono ?_
  clear H
  rintro e w7 ⟨g2, c2, rfl, hc2, hm2, H⟩
  simp only [HX.out] at H hc2 ⊢
  go_wp2_with (go_skip)
  refine (sameLines_P (W := w) (some ⟨g2, 0, none⟩) (some ⟨g1, 0, none⟩) n n c2 c1 HX.out HX.out (by omega) (by omega) (fun w' H' => H'.slRd (by (repeat (first | (with_reducible exact List.mem_cons_self) | with_reducible apply List.mem_cons_of_mem)))) (fun w' H' => H'.slRd (by (repeat (first | (with_reducible exact List.mem_cons_self) | with_reducible apply List.mem_cons_of_mem)))) _ H).mono ?_
  clear H
  rintro e w8 ⟨rfl, H⟩
  rw [decide_eq_true rfl]
  by_cases hz : n = 0
  · have e1 : ((n : Int) == 0) = true := by simp; omega
    go_wp2_with (go_skip)
    refine (lives03_H H).mono ?_
    clear H
    rintro e w7 ⟨rfl, H⟩
    go_wp2_with (go_skip)
    go_ret
    exact ⟨rfl, H.low⟩
  · have e1 : ((n : Int) == 0) = false := by simp; omega
    have hsn : Int.tmod (s : Int) (n : Int) = ((s % n : Nat) : Int) := by rw [Int.tmod_eq_emod_of_nonneg (by omega)]; omega
    have hk : s % n < n := Nat.mod_lt _ (by omega)
    generalize s % n = k at *
    have hkX : k < X.length := by have := HX.out; omega
    obtain ⟨x, hx⟩ : ∃ x, X[k]? = some x := ⟨X[k], List.getElem?_eq_getElem hkX⟩
    have HK := Lib.hid hx
    have hxo := HG.out.ok x (List.mem_of_getElem? hx)
    have hxa := HXA.out x (List.mem_of_getElem? hx)
    have hk1 : wrap64 ((k : Int) + 1) = (k : Int) + 1 := IntWalk.wrap64_in _ ⟨by omega, by omega⟩
    have HXK := Lib.hid hkX
    clear hx hkX
    replace H := (H.pull (.there (.there (.there (.there .here))))).slide
    replace H := (((((H.drop (.there .here)).drop (.there .here)).drop (.there .here)).drop (.there .here)).drop (.there .here)).drop (.there .here)
    replace H := H.nilRow 39 5
    go_wp2_with (go_skip)
    refine wp_region_O [4, 8] [0, 1, 2, 3, 5, 6, 7, 4, 8, 9] (fun l0 => ∃ pre, l0 = pre ++ [OwnT 39 5 (.slice (some ⟨g1, 0, none⟩) n c1) n (linL X), RowT 23 1 (.slice a1 m cc1) m (pI P)]) H ⟨[_], rfl⟩ (by kernel_rfl) (by kernel_rfl) ?_
    iterate 3 (apply wpO_step; (· rfl); (· rfl); (· rfl); (· exact Nat.le_of_ble_eq_true rfl); (· rintro l0 ⟨pre, rfl⟩ w0 H0; (first | go_big_quiet_skip | fail | go_big_quiet_step (fail)); (refine wpQuiet_nil ?_); (simp only [Array.getD_eq_getD_getElem?, List.getElem?_toArray, List.getElem?_cons_succ, List.getElem?_cons_zero, Option.getD_some]; rfl)); (simp only [Act.put, List.setIfInBounds_toArray, List.set_cons_zero, List.set_cons_succ]))
    (apply wpO_step; (· rfl); (· rfl); (· rfl); (· exact Nat.le_of_ble_eq_true rfl); (· rintro l0 ⟨pre, rfl⟩ w0 H0; (first | go_big_quiet_skip | ((refine wpQ_cutTo slLin (hi := k + 1) rfl rfl rfl ?_ ?_ ?_); (· omega); (· omega); (simp only [Act.put, List.setIfInBounds_toArray, List.set_cons_zero, List.set_cons_succ])) | go_big_quiet_step (fail)); (refine wpQuiet_nil ?_); (simp only [Array.getD_eq_getD_getElem?, List.getElem?_toArray, List.getElem?_cons_succ, List.getElem?_cons_zero, Option.getD_some]; rfl)); (simp only [Act.put, List.setIfInBounds_toArray, List.set_cons_zero, List.set_cons_succ]))
    iterate 2 (apply wpO_step; (· rfl); (· rfl); (· rfl); (· exact Nat.le_of_ble_eq_true rfl); (· rintro l0 ⟨pre, rfl⟩ w0 H0; (first | go_big_quiet_skip | fail | go_big_quiet_step (fail)); (refine wpQuiet_nil ?_); (simp only [Array.getD_eq_getD_getElem?, List.getElem?_toArray, List.getElem?_cons_succ, List.getElem?_cons_zero, Option.getD_some]; rfl)); (simp only [Act.put, List.setIfInBounds_toArray, List.set_cons_zero, List.set_cons_succ]))
    (apply wpO_step; (· rfl); (· rfl); (· rfl); (· exact Nat.le_of_ble_eq_true rfl); (· rintro l0 ⟨pre, rfl⟩ w0 H0; (first | go_big_quiet_skip | ((refine wpQ_cutFrom slLin (lo := k) rfl rfl rfl ?_ ?_ ?_ ?_); (· rfl); (· omega); (· omega); (simp only [Act.put, List.setIfInBounds_toArray, List.set_cons_zero, List.set_cons_succ])) | go_big_quiet_step (fail)); (refine wpQuiet_nil ?_); (simp only [Array.getD_eq_getD_getElem?, List.getElem?_toArray, List.getElem?_cons_succ, List.getElem?_cons_zero, Option.getD_some]; rfl)); (simp only [Act.put, List.setIfInBounds_toArray, List.set_cons_zero, List.set_cons_succ]))
    refine wpO_appendR slLin rfl rfl rfl rfl (news := (linL X).take ((k + 1) * 5)) (fun w' H' => rd_take (H'.ownRd (List.mem_cons_of_mem _ List.mem_cons_self)) _) (by rw [List.length_take, linL_len]; have := HX.out; omega) (fun u hu => linL_ones X u (List.mem_of_mem_take hu)) (by unfold maxLen; omega) (by omega) (fun v => ⟨[_], rfl⟩) ?_
    intro v1
    (simp only [Act.put, List.setIfInBounds_toArray, List.set_cons_zero, List.set_cons_succ])
    refine wpO_appendR slLin rfl rfl rfl rfl (news := (linL X).drop (k * 5)) (fun w' H' => by have := Rd.drop (H'.ownRd (List.mem_cons_of_mem _ List.mem_cons_self)) (k * 5); rwa [Nat.zero_add] at this) (by rw [List.length_drop, linL_len]; have := HX.out; omega) (fun u hu => linL_ones X u (List.mem_of_mem_drop hu)) (by unfold maxLen; omega) (by omega) (fun v => ⟨[_], rfl⟩) ?_
    intro v2
    (simp only [Act.put, List.setIfInBounds_toArray, List.set_cons_zero, List.set_cons_succ])
    (apply wpO_step; (· rfl); (· rfl); (· rfl); (· exact Nat.le_of_ble_eq_true rfl); (· rintro l0 ⟨pre, rfl⟩ w0 H0; (first | go_big_quiet_skip | fail | go_big_quiet_step (fail)); (refine wpQuiet_nil ?_); (simp only [Array.getD_eq_getD_getElem?, List.getElem?_toArray, List.getElem?_cons_succ, List.getElem?_cons_zero, Option.getD_some]; rfl)); (simp only [Act.put, List.setIfInBounds_toArray, List.set_cons_zero, List.set_cons_succ]))
    (refine wpO_nil ?_; clear H; intro _ H)
    rw [List.nil_append, linL_take (by have := HXK.out; omega), linL_drop (by have := HXK.out; omega), ← linL_app, show 0 + (k + 1) + (n - k) = n + 1 by omega] at H
    obtain ⟨ta, tc, rfl⟩ := row_form (H.ok _ List.mem_cons_self)
    have HTL := Lib.hid (show (X.take (k + 1) ++ X.drop k).length = n + 1 by rw [List.length_append, List.length_take, List.length_drop]; have := HX.out; omega)
    have HTN := Lib.hid (told_twice (P := P) HK.out)
    have HTA := Lib.hid (show ∀ y ∈ X.take (k + 1) ++ X.drop k, LinArg y from fun y hy => by
      rcases List.mem_append.1 hy with hy | hy
      · exact HXA.out y (List.mem_of_mem_take hy)
      · exact HXA.out y (List.mem_of_mem_drop hy))
    generalize X.take (k + 1) ++ X.drop k = T at *
    clear e1 hsn hk1
    go_wp2_with (go_skip)
    refine (lof_bad a1 ta m m (n + 1) tc P T HM.out HTL.out (by omega) (by omega) HGP.out HTA.out HTN.out (fun l' w' hs H' => H'.rowRd (hs _ (by (repeat (first | (with_reducible exact List.mem_cons_self) | with_reducible apply List.mem_cons_of_mem)) : RowT 23 1 (.slice a1 m cc1) m (pI P) ∈ _))) (fun l' w' hs H' => H'.rowRd (hs _ List.mem_cons_self)) H).mono ?_
    clear H
    rintro e w9 ⟨z, rfl, hz2, H⟩
    have HZ := Lib.hid hz2
    clear hz2
    obtain ⟨xc, xd, xu, xl, xe⟩ := x
    have HXO := Lib.hid hxo
    have hl2 := hxo.lim
    unfold LinArg at hxa
    simp only at hl2 hxa
    clear hxo
    have hw1 : wrap64 (xl + 1) = xl + 1 := IntWalk.wrap64_in _ ⟨by omega, by omega⟩
    have hcell := fun (w' : World) (H' : Heap w [RowT 39 5 (.slice ta (n + 1) tc) (n + 1) (linL (T)), OwnT 39 5 (.slice (some ⟨g1, 0, none⟩) n c1) n (linL X), RowT 23 1 (.slice a1 m cc1) m (pI P)] w') => rd_at (H'.ownRd (by (repeat (first | (with_reducible exact List.mem_cons_self) | with_reducible apply List.mem_cons_of_mem)) : OwnT 39 5 (.slice (some ⟨g1, 0, none⟩) n c1) n (linL X) ∈ _)) (linL_cell1 HK.out).2
    have hst : k * 5 + 4 < (linL X).length := by rw [linL_len]; have := HXK.out; omega
    go_wp2_with (first | go_skip | ((with_reducible show wpList _ _ _ (_ :: _) _ _); (with_reducible apply wpl_loadCell); (· first | exact cell_party | exact cell_i64); (· rfl); (· rfl); (· exact hcell _ H); (simp only [Act.put, List.setIfInBounds_toArray, List.set_cons_zero, List.set_cons_succ])) | ((with_reducible show wpList _ _ _ (_ :: _) _ _); (with_reducible apply wpl_storeOwnC); (· first | exact cell_party | exact cell_i64); (· rfl); (· rfl); (· first | exact (rfl : _ = Value.int .i64 (xl + 1))); (· exact ⟨rfl, rfl⟩); (· exact H); (· (repeat (first | (with_reducible exact List.mem_cons_self) | with_reducible apply List.mem_cons_of_mem))); (· exact (Nat.zero_add _).symm); (· first | exact hst); (· (repeat (first | (with_reducible exact Repl.here) | with_reducible apply Repl.there))); (clear H; intro _ H); (simp only [Act.put, List.setIfInBounds_toArray, List.set_cons_zero, List.set_cons_succ])))
    have hs1 := linL_setDeb (xl + 1) X k _ HK.out
    simp only at hs1
    rw [hs1] at H
    clear hs1 hcell hst hw1
    have hk0 := HXK.out
    have HK1 := Lib.hid (show (X.set k ⟨xc, xd, xu, xl, xl + 1⟩)[k]? = some ⟨xc, xd, xu, xl, xl + 1⟩ by simp [hk0])
    have HA1 := Lib.hid (set_args (k := k) (y := ⟨xc, xd, xu, xl, xl + 1⟩) HXA.out (by unfold LinArg; simp only; omega))
    have HN1 := Lib.hid (told_set (P := P) (y := ⟨xc, xd, xu, xl, xl + 1⟩) hk0 (fun o => by have := o.deb; simp only at this; omega))
    have HL1 := Lib.hid (show (X.set k ⟨xc, xd, xu, xl, xl + 1⟩).length = n by rw [List.length_set]; exact HX.out)
    generalize X.set k ⟨xc, xd, xu, xl, xl + 1⟩ = X1 at *
    refine (lof_no a1 (some ⟨g1, 0, none⟩) m m n c1 P (X1) HM.out (HL1.out) (by omega) hfew HGP.out (HA1.out) (HN1.out) (fun l' w' hs H' => H'.rowRd (hs _ (by (repeat (first | (with_reducible exact List.mem_cons_self) | with_reducible apply List.mem_cons_of_mem)) : RowT 23 1 (.slice a1 m cc1) m (pI P) ∈ _))) (fun l' w' hs H' => H'.ownRd (hs _ (by (repeat (first | (with_reducible exact List.mem_cons_self) | with_reducible apply List.mem_cons_of_mem)) : OwnT 39 5 (.slice (some ⟨g1, 0, none⟩) n c1) n (linL (X1)) ∈ _))) H).mono ?_
    clear H
    rintro e w10 ⟨rfl, H⟩
    have hk1 : k < X1.length := by rw [HL1.out]; exact hk
    have hcell := fun (w' : World) (H' : Heap w [RowT 39 5 (.slice ta (n + 1) tc) (n + 1) (linL T), OwnT 39 5 (.slice (some ⟨g1, 0, none⟩) n c1) n ((linL X1).set (k * 5 + 4) (.int .i64 0)), RowT 23 1 (.slice a1 m cc1) m (pI P)] w') => rd_at (H'.ownRd (by (repeat (first | (with_reducible exact List.mem_cons_self) | with_reducible apply List.mem_cons_of_mem)) : OwnT 39 5 (.slice (some ⟨g1, 0, none⟩) n c1) n ((linL X1).set (k * 5 + 4) (.int .i64 0)) ∈ _)) (show ((linL X1).set (k * 5 + 4) (.int .i64 0))[k * 5 + 1]? = some (.int .u8 xd) by rw [List.getElem?_set_ne (by omega)]; exact (linL_cell1 HK1.out).1)
    have hst : k * 5 + 4 < (linL X1).length := by rw [linL_len]; omega
    have hst2 : k * 5 < ((linL X1).set (k * 5 + 4) (.int .i64 0)).length := by rw [List.length_set, linL_len]; omega
    go_wp2_with (first | go_skip | ((with_reducible show wpList _ _ _ (_ :: _) _ _); (with_reducible apply wpl_loadCell); (· first | exact cell_party | exact cell_i64); (· rfl); (· rfl); (· exact hcell _ H); (simp only [Act.put, List.setIfInBounds_toArray, List.set_cons_zero, List.set_cons_succ])) | ((with_reducible show wpList _ _ _ (_ :: _) _ _); (with_reducible apply wpl_storeOwnC); (· first | exact cell_party | exact cell_i64); (· rfl); (· rfl); (· first | exact (rfl : _ = Value.int .i64 0) | exact (rfl : _ = Value.int .u8 xd)); (· exact ⟨rfl, rfl⟩); (· exact H); (· (repeat (first | (with_reducible exact List.mem_cons_self) | with_reducible apply List.mem_cons_of_mem))); (· exact (Nat.zero_add _).symm); (· first | exact hst | exact hst2); (· (repeat (first | (with_reducible exact Repl.here) | with_reducible apply Repl.there))); (clear H; intro _ H); (simp only [Act.put, List.setIfInBounds_toArray, List.set_cons_zero, List.set_cons_succ])))
    have hs1 := linL_setDeb 0 X1 k _ HK1.out
    simp only at hs1
    have HK2 := Lib.hid (show (X1.set k ⟨xc, xd, xu, xl, 0⟩)[k]? = some ⟨xc, xd, xu, xl, 0⟩ by simp [hk1])
    have hs2 := linL_setCr xd (X1.set k ⟨xc, xd, xu, xl, 0⟩) k _ HK2.out
    simp only at hs2
    rw [hs1, hs2] at H
    clear hs1 hs2 hcell hst hst2
    have HA3 := Lib.hid (set_args (k := k) (y := ⟨xd, xd, xu, xl, 0⟩) (set_args (k := k) (y := ⟨xc, xd, xu, xl, 0⟩) HA1.out (by unfold LinArg; simp only; omega)) (by unfold LinArg; simp only; omega))
    have HN3 := Lib.hid (told_set (P := P) (X := X1.set k ⟨xc, xd, xu, xl, 0⟩) (k := k) (y := ⟨xd, xd, xu, xl, 0⟩) (by rw [List.length_set]; exact hk1) (fun o => by have := o.ne; simp only at this; omega))
    have HL3 := Lib.hid (show ((X1.set k ⟨xc, xd, xu, xl, 0⟩).set k ⟨xd, xd, xu, xl, 0⟩).length = n by rw [List.length_set, List.length_set]; exact HL1.out)
    generalize (X1.set k ⟨xc, xd, xu, xl, 0⟩).set k ⟨xd, xd, xu, xl, 0⟩ = X3 at *
    refine (lof_no a1 (some ⟨g1, 0, none⟩) m m n c1 P (X3) HM.out (HL3.out) (by omega) hfew HGP.out (HA3.out) (HN3.out) (fun l' w' hs H' => H'.rowRd (hs _ (by (repeat (first | (with_reducible exact List.mem_cons_self) | with_reducible apply List.mem_cons_of_mem)) : RowT 23 1 (.slice a1 m cc1) m (pI P) ∈ _))) (fun l' w' hs H' => H'.ownRd (hs _ (by (repeat (first | (with_reducible exact List.mem_cons_self) | with_reducible apply List.mem_cons_of_mem)) : OwnT 39 5 (.slice (some ⟨g1, 0, none⟩) n c1) n (linL (X3)) ∈ _))) H).mono ?_
    clear H
    rintro e w10 ⟨rfl, H⟩
    rcases HZ.out with hz1 | ⟨hz1, hz2⟩
    · subst hz1
      go_wp2_with (go_skip)
      refine (lives03_H H).mono ?_
      clear H
      rintro e w7 ⟨rfl, H⟩
      go_wp2_with (go_skip)
      go_ret
      exact ⟨rfl, H.low⟩
    · subst hz1
      have d1 : decide (((n + 1 : Nat) : Int) > 64) = true := decide_eq_true (by omega)
      have d2 : decide ((64 : Int) < (n : Int) + 1) = true := decide_eq_true (by omega)
      go_wp2_with (go_skip)
      refine (lives03_H H).mono ?_
      clear H
      rintro e w7 ⟨rfl, H⟩
      go_wp2_with (go_skip)
      go_ret
      exact ⟨rfl, H.low⟩
theorem ledgersTold_law (v0 v1 : Value) (w : World) (o0 : ActsV w v0) (o1 : ∃ s : Nat, v1 = .int .u8 (s : Int) ∧ s ≤ 255) : Calls Try.prog 8 #[v0, v1] w fun e w' => e = .returned (.bool true) ∧ Below w.heap.size w w' := by
  obtain ⟨a, n, c, F, rfl, o0⟩ := o0
  obtain ⟨s, rfl, hs⟩ := o1
  by_cases hn : n ≤ 120
  · exact ledgersTold_main w a n c s F o0.len hn o0.ok o0.rd hs
  · exact ledgersTold_great w a n c s (by omega) (Nat.le_trans o0.cap o0.max)
end Go.Proofs.Ytacglcpjbepfnaa
