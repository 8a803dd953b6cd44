/- ledgers.Of: a ledger out of lists, or a refusal. -/
import Derived.Test.YtacglcpjbepfnaaLed6
import Derived.Test.YtacglcpjbepfnaaLedOrd
import Derived.Test.YtacglcpjbepfnaaLed10
import Derived.Test.YtacglcpjbepfnaaHeapSlide
import Derived.Test.YtacglcpjbepfnaaFull
namespace Go.Proofs.Ytacglcpjbepfnaa
open Go.RowKit
set_option linter.unusedSimpArgs false
set_option linter.unusedVariables false
theorem insP_last {P : List Int} {a : Int} (h : ∀ x ∈ P, x < a) : insP P a = P ++ [a] := by
  unfold insP
  rw [List.filter_eq_self.2 (fun x hx => by simpa using h x hx), List.filter_eq_nil_iff.2 (fun x hx => by have := h x hx; simp; omega)]
theorem setL_last {L : List Lin} {x : Lin} (h : ∀ y ∈ L, y.rank < x.rank) (h0 : x.lim ≠ 0) : setL L x = L ++ [x] := by
  unfold setL
  rw [List.filter_eq_self.2 (fun y hy => by simpa using h y hy), List.filter_eq_nil_iff.2 (fun y hy => by have := h y hy; simp; omega), if_neg h0, List.append_nil]
def goodPs (P : List Int) : Prop := P.Pairwise (· < ·) ∧ ∀ p ∈ P, 1 ≤ p ∧ p ≤ 16
theorem goodPs_snoc {P : List Int} {a : Int} (h : goodPs P) (h1 : ∀ x ∈ P, x < a) (h2 : 1 ≤ a ∧ a ≤ 16) : goodPs (P ++ [a]) := by
  refine ⟨List.pairwise_append.2 ⟨h.1, List.pairwise_singleton _ _, fun x hx y hy => ?_⟩, fun p hp => ?_⟩
  · rw [List.mem_singleton] at hy
    rw [hy]
    exact h1 x hx
  · rcases List.mem_append.1 hp with hp | hp
    · exact h.2 p hp
    · rw [List.mem_singleton] at hp
      rw [hp]
      exact h2
theorem take_snoc' {α : Type} {L : List α} {k : Nat} {y : α} (h : L[k]? = some y) : L.take (k + 1) = L.take k ++ [y] := by rw [List.take_add_one, h]; rfl
theorem last_lt {α : Type} {r : α → Int} {L : List α} {k : Nat} {y : α} {c : Int} (hk : L[k]? = some y) (h : (L.take (k + 1)).Pairwise (fun x y => r x < r y)) (hb : r y < c) : ∀ x ∈ L.take (k + 1), r x < c := by
  rw [take_snoc' hk] at h ⊢
  intro x hx
  rcases List.mem_append.1 hx with hx | hx
  · have := (List.pairwise_append.1 h).2.2 x hx y (List.mem_singleton.2 rfl)
    omega
  · rw [List.mem_singleton] at hx
    rw [hx]
    exact hb
theorem pw_get {α : Type} {r : α → Int} {L : List α} {i j : Nat} {x y : α} (hi : L[i]? = some x) (hj : L[j]? = some y) (hij : i < j) (h : L.Pairwise (fun x y => r x < r y)) : r x < r y := by
  obtain ⟨hi1, rfl⟩ := List.getElem?_eq_some_iff.1 hi
  obtain ⟨hj1, rfl⟩ := List.getElem?_eq_some_iff.1 hj
  exact List.pairwise_iff_getElem.1 h i j hi1 hj1 hij
theorem open_last {T : List Int} {a : Int} (h : ∀ x ∈ T, x < a) : (a < 1 ∨ 16 < a → openE ⟨T, []⟩ a = 1) ∧ (¬ (a < 1 ∨ 16 < a) → openE ⟨T, []⟩ a = 0 ∧ (openS ⟨T, []⟩ a).P = T ++ [a]) := by
  unfold openS openE
  refine ⟨fun h1 => by rw [if_pos h1], fun h1 => ?_⟩
  have h2 : a ∉ T := fun e => by have := h a e; omega
  simp only [if_neg h1, if_neg h2, if_true]
  exact ⟨trivial, insP_last h⟩
theorem cfL_lt {x y : Lin} (hx : Small x) (hy : Small y) : cfL x y < 0 ↔ x.rank < y.rank := by
  have h := lt_cfL x y
  rw [show ltOf cfL x y = decide (cfL x y < 0) from rfl, decide_eq_decide] at h
  rw [h]
  unfold Lin.rank
  unfold Small at *
  omega
def LinArg (x : Lin) : Prop := (0 ≤ x.cr ∧ x.cr ≤ 255) ∧ (0 ≤ x.db ∧ x.db ≤ 255) ∧ (0 ≤ x.cu ∧ x.cu ≤ 255) ∧ (-9223372036854775808 ≤ x.lim ∧ x.lim ≤ 9223372036854775807) ∧ (-9223372036854775808 ≤ x.deb ∧ x.deb ≤ 9223372036854775807)
theorem LinArg.small {x : Lin} (h : LinArg x) : Small x := by unfold LinArg at h; unfold Small; omega
theorem good_snoc {P : List Int} {T : List Lin} {x : Lin} (G : (⟨P, T⟩ : Lgr).Good) (hx : LinOk P x) (hr : ∀ y ∈ T, y.rank < x.rank) (hl : T.length + 1 ≤ 64) : (⟨P, T ++ [x]⟩ : Lgr).Good := by
  refine ⟨G.par, G.par1, List.pairwise_append.2 ⟨G.ord, List.pairwise_singleton _ _, fun y hy z hz => ?_⟩, fun y hy => ?_, by simp; omega⟩
  · rw [List.mem_singleton] at hz
    rw [hz]
    exact hr y hy
  · rcases List.mem_append.1 hy with hy | hy
    · exact G.ok y hy
    · rw [List.mem_singleton] at hy
      rw [hy]
      exact hx
structure OfX (W : World) (l : List Thing) (p q n : Nat) (P : List Int) (X : List Lin) (v e : Value) (i : Value) (wr : World) : Prop where
  out : ∃ k : Nat, k ≤ n ∧ v = .pointer none ∧ e = .int .i64 0 ∧ i = .int .i64 (k : Int) ∧ (⟨P, X.take k⟩ : Lgr).Good ∧ Heap W (LdC p P (some q) :: LdM q (X.take k) :: l) wr
structure OfP (W : World) (l : List Thing) (p q n : Nat) (P : List Int) (v e : Value) (i : Value) (wr : World) : Prop where
  out : ∃ k : Nat, k ≤ n ∧ v = .pointer none ∧ e = .int .i64 0 ∧ i = .int .i64 (k : Int) ∧ goodPs (P.take k) ∧ Heap W (LdC p (P.take k) (some q) :: LdM q [] :: l) wr
/-- What Of answers. -/
def OfPost (W : World) (l : List Thing) (P : List Int) (X : List Lin) (e : Ending) (w' : World) : Prop :=
  (e = .returned (.tuple #[.pointer none, .int .i64 1]) ∧ (¬ goodPs P ∨ X.length ≤ 64 ∧ ¬ (⟨P, X⟩ : Lgr).Good) ∧ Heap W l w') ∨
  (e = .returned (.tuple #[.pointer none, .int .i64 9]) ∧ goodPs P ∧ 64 < X.length ∧ Heap W l w') ∨
  (∃ p q, e = .returned (.tuple #[.pointer (some ⟨p, 0, none⟩), .int .i64 0]) ∧ (⟨P, X⟩ : Lgr).Good ∧ Heap W (LdC p P (some q) :: LdM q X :: l) w')
section
variable {W w : World} {l : List Thing}
set_option maxRecDepth 100000
set_option maxHeartbeats 8000000
theorem lof_H (pa xa : Option Addr) (pn pc xn xc : Nat) (P : List Int) (X : List Lin) (hp : P.length = pn) (hx : X.length = xn) (hpm : pn ≤ 1000000) (hxm : xn ≤ 1000000) (hP : ∀ x ∈ P, 0 ≤ x ∧ x ≤ 255) (hX : ∀ x ∈ X, LinArg x)
    (RP : ∀ l' w', (∀ x ∈ l, x ∈ l') → Heap W l' w' → Rd w' pa (pI P)) (RX : ∀ l' w', (∀ x ∈ l, x ∈ l') → Heap W l' w' → Rd w' xa (linL X)) (H : Heap W l w) :
    Calls Try.prog 26 #[.slice pa pn pc, .slice xa xn xc] w (OfPost W l P X) := by
  have HRP := Lib.hid RP
  have HRX := Lib.hid RX
  have HPL := Lib.hid hp
  have HXL := Lib.hid hx
  have HPP := Lib.hid hP
  have HXX := Lib.hid hX
  clear RP RX hp hx hP hX
  go_enter Try.func26, Try.ntmps26
  go_wp2_with (go_skip)
  refine (lnew_H H).mono ?_
  clear H
  rintro e w1 ⟨p, q, rfl, H⟩
  go_wp2_with (go_skip)
  have H0 := H
  clear H
  go_loopw [4, 5, 15] (fun v e i wr => OfP W l p q pn P v e i wr) (fun _ _ i _ => pn - (intOf i).toNat)
  case atStart => exact ⟨0, Nat.zero_le _, rfl, rfl, rfl, ⟨by simp, by simp⟩, H0⟩
  case round =>
    obtain ⟨k, hk, rfl, rfl, rfl, hg, H⟩ := hrel.out
    clear H0 hrel
    have HG := Lib.hid hg
    clear hg
    by_cases hlt : k < pn
    · have hkP : k < P.length := by rw [HPL.out]; exact hlt
      have hb0 := HPP.out _ (List.getElem_mem hkP)
      have hRd := HRP.out _ _ (fun t ht => List.mem_cons_of_mem _ (List.mem_cons_of_mem _ ht)) H
      obtain ⟨ba, oa, rfl, _⟩ := hRd.lt (by rw [pI_len]; omega)
      obtain ⟨a, ha⟩ : ∃ a : Nat, P[k]? = some (a : Int) := ⟨P[k].toNat, by rw [List.getElem?_eq_getElem hkP, Int.toNat_of_nonneg (by omega)]⟩
      have hcell : wr.cell? ⟨ba, oa + k, none⟩ = some (.int .u8 (a : Int)) := by
        rw [hRd.get (i := k) (by rw [pI_len]; exact hkP)]
        rw [List.getElem?_eq_getElem hkP] at ha
        simp [pI, Option.some.inj ha]
      have a255 : a ≤ 255 := by
        rw [List.getElem?_eq_getElem hkP] at ha
        have := Option.some.inj ha
        omega
      have HA := Lib.hid ha
      clear ha hb0
      rcases Nat.eq_zero_or_pos k with rfl | hpos
      · clear hRd hkP
        have HLT := Lib.hid (show ∀ x ∈ P.take 0, x < (a : Int) from fun x hx => by simp at hx)
        generalize hT : P.take 0 = T at *
        have HT := Lib.hid hT
        clear hT
        go_wp2_with (first | go_skip | ((with_reducible show wpList _ _ _ (_ :: _) _ _); (with_reducible apply wpl_loadCell); (· exact cell_party); (· rfl); (· rfl); (· exact hcell); (simp only [Act.put, List.setIfInBounds_toArray, List.set_cons_zero, List.set_cons_succ])))
        refine (lopen_H (p := p) (q := q) (S := ⟨T, []⟩) a a255 H).mono ?_
        clear H
        rintro e w2 ⟨rfl, H⟩
        by_cases hbad : (a : Int) < 1 ∨ 16 < (a : Int)
        · rw [(open_last HLT.out).1 hbad]
          go_wp2_with (go_skip)
          go_ret2
          exact .inl ⟨rfl, .inl (fun g => by have := g.2 _ (List.mem_of_getElem? HA.out); omega), H.tail.tail⟩
        · rw [((open_last HLT.out).2 hbad).1]
          rw [((open_last HLT.out).2 hbad).2, ← HT.out, ← take_snoc' HA.out] at H
          have HG2 := Lib.hid (show goodPs (P.take (0 + 1)) by rw [take_snoc' HA.out, HT.out]; exact goodPs_snoc (HT.out ▸ HG.out) HLT.out (by omega))
          clear hbad
          go_wp2_with (go_skip)
          refine ⟨⟨0 + 1, by omega, rfl, rfl, by go_num, HG2.out, H⟩, ?measure0⟩
          case measure0 => simp [intOf]; omega
      · obtain ⟨i, rfl⟩ : ∃ i, k = i + 1 := ⟨k - 1, by omega⟩
        have hiP : i < P.length := by omega
        have hc0 := HPP.out _ (List.getElem_mem hiP)
        obtain ⟨b, hbb⟩ : ∃ b : Nat, P[i]? = some (b : Int) := ⟨P[i].toNat, by rw [List.getElem?_eq_getElem hiP, Int.toNat_of_nonneg (by omega)]⟩
        have hcell2 : wr.cell? ⟨ba, oa + i, none⟩ = some (.int .u8 (b : Int)) := by
          rw [hRd.get (i := i) (by rw [pI_len]; exact hiP)]
          rw [List.getElem?_eq_getElem hiP] at hbb
          simp [pI, Option.some.inj hbb]
        have HB := Lib.hid hbb
        clear hRd hkP hbb hc0 hiP hpos
        by_cases hab : a ≤ b
        · go_wp2_with (first | go_skip | ((with_reducible show wpList _ _ _ (_ :: _) _ _); (with_reducible apply wpl_loadCell); (· exact cell_party); (· rfl); (· rfl); (· first | exact hcell | exact hcell2); (simp only [Act.put, List.setIfInBounds_toArray, List.set_cons_zero, List.set_cons_succ])))
          go_ret2
          exact .inl ⟨rfl, .inl (fun g => by have := pw_get (r := id) HB.out HA.out (by omega) g.1; simp only [id] at this; omega), H.tail.tail⟩
        · have HLT := Lib.hid (show ∀ x ∈ P.take (i + 1), x < (a : Int) from last_lt (r := id) HB.out HG.out.1 (by simp only [id]; omega))
          generalize hT : P.take (i + 1) = T at *
          have HT := Lib.hid hT
          clear hT
          go_wp2_with (first | go_skip | ((with_reducible show wpList _ _ _ (_ :: _) _ _); (with_reducible apply wpl_loadCell); (· exact cell_party); (· rfl); (· rfl); (· first | exact hcell | exact hcell2); (simp only [Act.put, List.setIfInBounds_toArray, List.set_cons_zero, List.set_cons_succ])))
          refine (lopen_H (p := p) (q := q) (S := ⟨T, []⟩) a a255 H).mono ?_
          clear H
          rintro e w2 ⟨rfl, H⟩
          by_cases hbad : (a : Int) < 1 ∨ 16 < (a : Int)
          · rw [(open_last HLT.out).1 hbad]
            go_wp2_with (go_skip)
            go_ret2
            exact .inl ⟨rfl, .inl (fun g => by have := g.2 _ (List.mem_of_getElem? HA.out); omega), H.tail.tail⟩
          · rw [((open_last HLT.out).2 hbad).1]
            rw [((open_last HLT.out).2 hbad).2, ← HT.out, ← take_snoc' HA.out] at H
            have HG2 := Lib.hid (show goodPs (P.take ((i + 1) + 1)) by rw [take_snoc' HA.out, HT.out]; exact goodPs_snoc (HT.out ▸ HG.out) HLT.out (by omega))
            clear hbad
            go_wp2_with (go_skip)
            refine ⟨⟨(i + 1) + 1, by omega, rfl, rfl, by go_num, HG2.out, H⟩, ?measure1⟩
            case measure1 => simp [intOf]; omega
    · obtain rfl : k = pn := by omega
      have eP : P.take k = P := List.take_of_length_le (by rw [HPL.out]; exact Nat.le_refl _)
      rw [eP] at H
      have HGP := Lib.hid (show goodPs P from eP ▸ HG.out)
      clear eP HG hlt hk
      by_cases hbig : 64 < xn
      · have hb2 : 64 < (xn : Int) := by omega
        go_wp2_with (go_skip)
        go_ret2
        exact .inr (.inl ⟨rfl, HGP.out, by have := HXL.out; omega, H.tail.tail⟩)
      · have hb2 : ¬ (64 < (xn : Int)) := by omega
        go_wp2_with (go_skip)
        clear hb2
        have H0 := H
        clear H
        go_loopw [4, 5, 43] (fun v e i wr => OfX W l p q xn P X v e i wr) (fun _ _ i _ => xn - (intOf i).toNat)
        case atStart => exact ⟨0, Nat.zero_le _, rfl, rfl, rfl, ⟨HGP.out.1, HGP.out.2, by simp, by simp, by simp⟩, H0⟩
        case round =>
          obtain ⟨j, hj, rfl, rfl, rfl, hg, H⟩ := hrel.out
          clear H0 hrel
          have HG := Lib.hid hg
          clear hg
          by_cases hjt : j < xn
          · have hjX : j < X.length := by rw [HXL.out]; exact hjt
            have hRd := HRX.out _ _ (fun t ht => List.mem_cons_of_mem _ (List.mem_cons_of_mem _ ht)) H
            obtain ⟨ba, oa, rfl, _⟩ := hRd.lt (by rw [linL_len]; omega)
            have HRd := Lib.hid hRd
            have hlen : j * 5 + 5 ≤ (linL X).length := by rw [linL_len]; omega
            have hrow := linL_row X j hjX
            have hge : X[j]? = some X[j] := List.getElem?_eq_getElem hjX
            have hxa := HXX.out _ (List.getElem_mem hjX)
            generalize X[j] = x at *
            obtain ⟨a, b, c, li, de⟩ := x
            have HSM := Lib.hid hxa.small
            obtain ⟨h1, h2, h3, h4, h5⟩ := hxa
            simp only at h1 h2 h3 h4 h5 hrow
            obtain ⟨a, rfl⟩ := Int.eq_ofNat_of_zero_le h1.1
            obtain ⟨b, rfl⟩ := Int.eq_ofNat_of_zero_le h2.1
            obtain ⟨c, rfl⟩ := Int.eq_ofNat_of_zero_le h3.1
            have HGE := Lib.hid hge
            clear hge hRd hjX
            have em := endsMay_ans a b c (by omega) (by omega) (by omega)
            by_cases hbad : badEnds (a : Int) (b : Int) (c : Int)
            · rw [decide_eq_true hbad] at em
              have HB := Lib.hid hbad
              clear hbad
              go_wp2_with (first | go_skip | ((with_reducible show wpList _ _ _ (_ :: _) _ _); (with_reducible apply wpl_loadRdR row_line); (· rfl); (· rfl); (· exact HRd.out); (· rfl); (· exact hlen); (· decide); (· exact hrow); (simp only [Act.put, List.setIfInBounds_toArray, List.set_cons_zero, List.set_cons_succ])) | ((with_reducible show wpList _ _ _ (_ :: _) _ _); (with_reducible apply wpl_allocRH row_line); (· rfl); (· exact H); (clear H; intro px _ H); (simp only [Act.put, List.setIfInBounds_toArray, List.set_cons_zero, List.set_cons_succ])) | ((with_reducible show wpList _ _ _ (_ :: _) _ _); (with_reducible apply wpl_storeRH row_line); (· rfl); (· rfl); (· rfl); (· with_reducible exact line_cells ..); (· exact H); (· (repeat (first | (with_reducible exact List.mem_cons_self) | with_reducible apply List.mem_cons_of_mem))); (· (simp only [line_sz, Nat.reduceAdd, Nat.reduceLeDiff, Nat.le_refl]; done)); (· with_reducible exact line_splice ..); (· (repeat (first | (with_reducible exact Repl.here) | with_reducible apply Repl.there))); (clear H; intro _ H); (simp only [Act.put, List.setIfInBounds_toArray, List.set_cons_zero, List.set_cons_succ])) | ((with_reducible show wpList _ _ _ (_ :: _) _ _); (with_reducible apply wpl_loadCH); (· first | exact cell_party | exact cell_cur | exact cell_i64); (· rfl); (· rfl); (· exact H); (· (repeat (first | (with_reducible exact List.mem_cons_self) | with_reducible apply List.mem_cons_of_mem))); (· with_reducible first | exact line_g0 .. | exact line_g1 .. | exact line_g2 .. | exact line_g3 .. | exact line_g4 ..); (simp only [Act.put, List.setIfInBounds_toArray, List.set_cons_zero, List.set_cons_succ])) | ((with_reducible show wpList _ _ _ (_ :: _) _ _); (with_reducible apply wpl_allocRH row_ends); (· rfl); (· exact H); (clear H; intro pe _ H); (simp only [Act.put, List.setIfInBounds_toArray, List.set_cons_zero, List.set_cons_succ])) | ((with_reducible show wpList _ _ _ (_ :: _) _ _); (with_reducible apply wpl_storeRH row_ends); (· rfl); (· rfl); (· rfl); (· with_reducible exact ends_cells ..); (· exact H); (· (repeat (first | (with_reducible exact List.mem_cons_self) | with_reducible apply List.mem_cons_of_mem))); (· (simp only [ends_sz, Nat.reduceAdd, Nat.reduceLeDiff, Nat.le_refl]; done)); (· with_reducible exact ends_splice ..); (· (repeat (first | (with_reducible exact Repl.here) | with_reducible apply Repl.there))); (clear H; intro _ H); (simp only [Act.put, List.setIfInBounds_toArray, List.set_cons_zero, List.set_cons_succ])) | ((with_reducible show wpList _ _ _ (_ :: _) _ _); (with_reducible apply wpl_loadRH row_ends); (· rfl); (· rfl); (· exact H); (· (repeat (first | (with_reducible exact List.mem_cons_self) | with_reducible apply List.mem_cons_of_mem))); (· (simp only [ends_sz, Nat.reduceAdd, Nat.reduceLeDiff, Nat.le_refl]; done)); (· with_reducible exact ends_all ..); (simp only [Act.put, List.setIfInBounds_toArray, List.set_cons_zero, List.set_cons_succ])) | ((with_reducible refine Ans.callH (by assumption) H ?_); clear H; intro _ H))
              go_ret2
              exact .inl ⟨rfl, .inr ⟨by have := HXL.out; omega, fun G => by have g := G.ok _ (List.mem_of_getElem? HGE.out); have g1 := G.par1 _ g.cr; have g2 := G.par1 _ g.db; have g3 := g.ne; have g4 := g.cu; have g5 := HB.out; simp only at g1 g2 g3 g4; unfold badEnds at g5; omega⟩, H.tail.tail.tail.tail⟩
            · rw [decide_eq_false hbad] at em
              have HB := Lib.hid hbad
              have c17 : a < 17 := by unfold badEnds at hbad; omega
              have d17 : b < 17 := by unfold badEnds at hbad; omega
              clear hbad
              go_wp2_with (first | go_skip | ((with_reducible show wpList _ _ _ (_ :: _) _ _); (with_reducible apply wpl_loadRdR row_line); (· rfl); (· rfl); (· exact HRd.out); (· rfl); (· exact hlen); (· decide); (· exact hrow); (simp only [Act.put, List.setIfInBounds_toArray, List.set_cons_zero, List.set_cons_succ])) | ((with_reducible show wpList _ _ _ (_ :: _) _ _); (with_reducible apply wpl_allocRH row_line); (· rfl); (· exact H); (clear H; intro px _ H); (simp only [Act.put, List.setIfInBounds_toArray, List.set_cons_zero, List.set_cons_succ])) | ((with_reducible show wpList _ _ _ (_ :: _) _ _); (with_reducible apply wpl_storeRH row_line); (· rfl); (· rfl); (· rfl); (· with_reducible exact line_cells ..); (· exact H); (· (repeat (first | (with_reducible exact List.mem_cons_self) | with_reducible apply List.mem_cons_of_mem))); (· (simp only [line_sz, Nat.reduceAdd, Nat.reduceLeDiff, Nat.le_refl]; done)); (· with_reducible exact line_splice ..); (· (repeat (first | (with_reducible exact Repl.here) | with_reducible apply Repl.there))); (clear H; intro _ H); (simp only [Act.put, List.setIfInBounds_toArray, List.set_cons_zero, List.set_cons_succ])) | ((with_reducible show wpList _ _ _ (_ :: _) _ _); (with_reducible apply wpl_loadCH); (· first | exact cell_party | exact cell_cur | exact cell_i64); (· rfl); (· rfl); (· exact H); (· (repeat (first | (with_reducible exact List.mem_cons_self) | with_reducible apply List.mem_cons_of_mem))); (· with_reducible first | exact line_g0 .. | exact line_g1 .. | exact line_g2 .. | exact line_g3 .. | exact line_g4 ..); (simp only [Act.put, List.setIfInBounds_toArray, List.set_cons_zero, List.set_cons_succ])) | ((with_reducible show wpList _ _ _ (_ :: _) _ _); (with_reducible apply wpl_allocRH row_ends); (· rfl); (· exact H); (clear H; intro pe _ H); (simp only [Act.put, List.setIfInBounds_toArray, List.set_cons_zero, List.set_cons_succ])) | ((with_reducible show wpList _ _ _ (_ :: _) _ _); (with_reducible apply wpl_storeRH row_ends); (· rfl); (· rfl); (· rfl); (· with_reducible exact ends_cells ..); (· exact H); (· (repeat (first | (with_reducible exact List.mem_cons_self) | with_reducible apply List.mem_cons_of_mem))); (· (simp only [ends_sz, Nat.reduceAdd, Nat.reduceLeDiff, Nat.le_refl]; done)); (· with_reducible exact ends_splice ..); (· (repeat (first | (with_reducible exact Repl.here) | with_reducible apply Repl.there))); (clear H; intro _ H); (simp only [Act.put, List.setIfInBounds_toArray, List.set_cons_zero, List.set_cons_succ])) | ((with_reducible show wpList _ _ _ (_ :: _) _ _); (with_reducible apply wpl_loadRH row_ends); (· rfl); (· rfl); (· exact H); (· (repeat (first | (with_reducible exact List.mem_cons_self) | with_reducible apply List.mem_cons_of_mem))); (· (simp only [ends_sz, Nat.reduceAdd, Nat.reduceLeDiff, Nat.le_refl]; done)); (· with_reducible exact ends_all ..); (simp only [Act.put, List.setIfInBounds_toArray, List.set_cons_zero, List.set_cons_succ])) | ((with_reducible refine Ans.callH (by assumption) H ?_); clear H; intro _ H))
              clear em hlen hrow
              by_cases hp1 : (a : Int) ∈ P
              · have e1 : hasP P (a : Int) = true := decide_eq_true hp1
                refine wp_region_H H (by kernel_rfl) (by kernel_rfl) ?_
                repeat (first | go_big_quiet_skip | (first | ((with_reducible apply wpQ_loadCH); (· exact cell_party); (· rfl); (· rfl); (· (repeat (first | (with_reducible exact List.mem_cons_self) | with_reducible apply List.mem_cons_of_mem))); (· with_reducible first | exact ends_g0 .. | exact ends_g1 ..); (simp only [Act.put, List.setIfInBounds_toArray, List.set_cons_zero, List.set_cons_succ])) | ((with_reducible apply wpQ_loadCH); (· exact cell_bool); (· rfl); (· rfl); (· (repeat (first | (with_reducible exact List.mem_cons_self) | with_reducible apply List.mem_cons_of_mem))); (· first | exact ledA_getb _ _ c17 e1 | exact ledA_getb _ _ d17 e2); (simp only [Act.put, List.setIfInBounds_toArray, List.set_cons_zero, List.set_cons_succ]))) | go_big_quiet_step (fail))
                refine wpQuiet_nil ?_
                clear H
                intro _ H
                go_wp2_with (go_skip)
                by_cases hp2 : (b : Int) ∈ P
                · have e2 : hasP P (b : Int) = true := decide_eq_true hp2
                  refine wp_region_H H (by kernel_rfl) (by kernel_rfl) ?_
                  repeat (first | go_big_quiet_skip | (first | ((with_reducible apply wpQ_loadCH); (· exact cell_party); (· rfl); (· rfl); (· (repeat (first | (with_reducible exact List.mem_cons_self) | with_reducible apply List.mem_cons_of_mem))); (· with_reducible first | exact ends_g0 .. | exact ends_g1 ..); (simp only [Act.put, List.setIfInBounds_toArray, List.set_cons_zero, List.set_cons_succ])) | ((with_reducible apply wpQ_loadCH); (· exact cell_bool); (· rfl); (· rfl); (· (repeat (first | (with_reducible exact List.mem_cons_self) | with_reducible apply List.mem_cons_of_mem))); (· first | exact ledA_getb _ _ c17 e1 | exact ledA_getb _ _ d17 e2); (simp only [Act.put, List.setIfInBounds_toArray, List.set_cons_zero, List.set_cons_succ]))) | go_big_quiet_step (fail))
                  refine wpQuiet_nil ?_
                  clear H
                  intro _ H
                  have HP := Lib.hid (And.intro hp1 hp2)
                  clear hp1 hp2 e1 e2
                  by_cases q1 : li < 1
                  · have f1 : decide (li < 1) = true := decide_eq_true q1
                    go_wp2_with (first | go_skip | ((with_reducible show wpList _ _ _ (_ :: _) _ _); (with_reducible apply wpl_loadCH); (· first | exact cell_party | exact cell_cur | exact cell_i64); (· rfl); (· rfl); (· exact H); (· (repeat (first | (with_reducible exact List.mem_cons_self) | with_reducible apply List.mem_cons_of_mem))); (· with_reducible first | exact line_g0 .. | exact line_g1 .. | exact line_g2 .. | exact line_g3 .. | exact line_g4 ..); (simp only [Act.put, List.setIfInBounds_toArray, List.set_cons_zero, List.set_cons_succ])))
                    go_ret2
                    exact .inl ⟨rfl, .inr ⟨by have := HXL.out; omega, fun G => by have g := G.ok _ (List.mem_of_getElem? HGE.out); have g1 := g.lim; have g2 := g.deb; simp only at g1 g2; omega⟩, H.tail.tail.tail.tail⟩
                  · by_cases q2 : 1099511627776 < li
                    · have f1 : decide (li < 1) = false := decide_eq_false q1
                      have f2 : decide (li > 1099511627776) = true := decide_eq_true q2
                      go_wp2_with (first | go_skip | ((with_reducible show wpList _ _ _ (_ :: _) _ _); (with_reducible apply wpl_loadCH); (· first | exact cell_party | exact cell_cur | exact cell_i64); (· rfl); (· rfl); (· exact H); (· (repeat (first | (with_reducible exact List.mem_cons_self) | with_reducible apply List.mem_cons_of_mem))); (· with_reducible first | exact line_g0 .. | exact line_g1 .. | exact line_g2 .. | exact line_g3 .. | exact line_g4 ..); (simp only [Act.put, List.setIfInBounds_toArray, List.set_cons_zero, List.set_cons_succ])))
                      go_ret2
                      exact .inl ⟨rfl, .inr ⟨by have := HXL.out; omega, fun G => by have g := G.ok _ (List.mem_of_getElem? HGE.out); have g1 := g.lim; have g2 := g.deb; simp only at g1 g2; omega⟩, H.tail.tail.tail.tail⟩
                    · by_cases q3 : de < 0
                      · have f1 : decide (li < 1) = false := decide_eq_false q1
                        have f2 : decide (li > 1099511627776) = false := decide_eq_false q2
                        have f3 : decide (de < 0) = true := decide_eq_true q3
                        go_wp2_with (first | go_skip | ((with_reducible show wpList _ _ _ (_ :: _) _ _); (with_reducible apply wpl_loadCH); (· first | exact cell_party | exact cell_cur | exact cell_i64); (· rfl); (· rfl); (· exact H); (· (repeat (first | (with_reducible exact List.mem_cons_self) | with_reducible apply List.mem_cons_of_mem))); (· with_reducible first | exact line_g0 .. | exact line_g1 .. | exact line_g2 .. | exact line_g3 .. | exact line_g4 ..); (simp only [Act.put, List.setIfInBounds_toArray, List.set_cons_zero, List.set_cons_succ])))
                        go_ret2
                        exact .inl ⟨rfl, .inr ⟨by have := HXL.out; omega, fun G => by have g := G.ok _ (List.mem_of_getElem? HGE.out); have g1 := g.lim; have g2 := g.deb; simp only at g1 g2; omega⟩, H.tail.tail.tail.tail⟩
                      · by_cases q4 : li < de
                        · have f1 : decide (li < 1) = false := decide_eq_false q1
                          have f2 : decide (li > 1099511627776) = false := decide_eq_false q2
                          have f3 : decide (de < 0) = false := decide_eq_false q3
                          have f4 : decide (de > li) = true := decide_eq_true q4
                          go_wp2_with (first | go_skip | ((with_reducible show wpList _ _ _ (_ :: _) _ _); (with_reducible apply wpl_loadCH); (· first | exact cell_party | exact cell_cur | exact cell_i64); (· rfl); (· rfl); (· exact H); (· (repeat (first | (with_reducible exact List.mem_cons_self) | with_reducible apply List.mem_cons_of_mem))); (· with_reducible first | exact line_g0 .. | exact line_g1 .. | exact line_g2 .. | exact line_g3 .. | exact line_g4 ..); (simp only [Act.put, List.setIfInBounds_toArray, List.set_cons_zero, List.set_cons_succ])))
                          go_ret2
                          exact .inl ⟨rfl, .inr ⟨by have := HXL.out; omega, fun G => by have g := G.ok _ (List.mem_of_getElem? HGE.out); have g1 := g.lim; have g2 := g.deb; simp only at g1 g2; omega⟩, H.tail.tail.tail.tail⟩
                        · have f1 : decide (li < 1) = false := decide_eq_false q1
                          have f2 : decide (li > 1099511627776) = false := decide_eq_false q2
                          have f3 : decide (de < 0) = false := decide_eq_false q3
                          have f4 : decide (de > li) = false := decide_eq_false q4
                          go_wp2_with (first | go_skip | ((with_reducible show wpList _ _ _ (_ :: _) _ _); (with_reducible apply wpl_loadCH); (· first | exact cell_party | exact cell_cur | exact cell_i64); (· rfl); (· rfl); (· exact H); (· (repeat (first | (with_reducible exact List.mem_cons_self) | with_reducible apply List.mem_cons_of_mem))); (· with_reducible first | exact line_g0 .. | exact line_g1 .. | exact line_g2 .. | exact line_g3 .. | exact line_g4 ..); (simp only [Act.put, List.setIfInBounds_toArray, List.set_cons_zero, List.set_cons_succ])))
                          clear f1 f2 f3 f4
                          rcases Nat.eq_zero_or_pos j with rfl | hpos
                          · have HLT := Lib.hid (show ∀ y ∈ X.take 0, y.rank < (⟨(a : Int), (b : Int), (c : Int), li, de⟩ : Lin).rank from fun y hy => by simp at hy)
                            have HT0 := Lib.hid (show X.take (0 + 1) = X.take 0 ++ [_] from take_snoc' HGE.out)
                            have HTL := Lib.hid (show (X.take 0).length = 0 by simp)
                            generalize X.take 0 = T at *
                            obtain ⟨T2, hT2⟩ : ∃ T2, X.take (0 + 1) = T2 := ⟨_, rfl⟩
                            have HT2 := Lib.hid hT2
                            rw [hT2] at HT0
                            clear hT2
                            refine wp_region_H H (by kernel_rfl) (by kernel_rfl) ?_
                            repeat (first | go_big_quiet_skip | fail | go_big_quiet_step (fail))
                            refine wpQuiet_nil ?_
                            clear H
                            intro _ H
                            go_wp2_with (go_skip)
                            have HPM := Lib.hid (put_set (x := ⟨(a : Int), (b : Int), (c : Int), li, de⟩) HG.out.ord HG.out.smalls HSM.out (by simp only; omega))
                            rw [setL_last HLT.out (by simp only; omega), ← HT0.out] at HPM
                            have k1 := Lib.hid (key_nat a b c (by omega) (by omega) (by omega))
                            have HG2 := Lib.hid (show (⟨P, T2⟩ : Lgr).Good by
                              rw [HT0.out]
                              refine good_snoc HG.out ⟨HP.out.1, HP.out.2, ?_, ?_, ?_, ?_⟩ HLT.out ?_
                              · have := HB.out; unfold badEnds at this; simp only; omega
                              · have := HB.out; unfold badEnds at this; simp only; omega
                              · simp only; omega
                              · simp only; omega
                              · have := HTL.out; omega)
                            refine wp_region_H_tail 10 H (by kernel_rfl) (by kernel_rfl) ?_
                            simp only [List.take_succ_cons, List.take_zero, List.drop_succ_cons, List.drop_zero]
                            repeat (first | go_big_quiet_skip | (first | ((with_reducible apply wpQ_loadCH); (· exact cell_map); (· rfl); (· rfl); (· (repeat (first | (with_reducible exact List.mem_cons_self) | with_reducible apply List.mem_cons_of_mem))); (· exact ledA_map _ _); (simp only [Act.put, List.setIfInBounds_toArray, List.set_cons_zero, List.set_cons_succ])) | ((with_reducible apply wpQ_loadRH row_ends); (· rfl); (· rfl); (· (repeat (first | (with_reducible exact List.mem_cons_self) | with_reducible apply List.mem_cons_of_mem))); (· (simp only [ends_sz, Nat.reduceAdd, Nat.reduceLeDiff, Nat.le_refl]; done)); (· with_reducible exact ends_all ..); (simp only [Act.put, List.setIfInBounds_toArray, List.set_cons_zero, List.set_cons_succ])) | ((with_reducible apply wpQ_loadCH); (· exact cell_i64); (· rfl); (· rfl); (· (repeat (first | (with_reducible exact List.mem_cons_self) | with_reducible apply List.mem_cons_of_mem))); (· with_reducible first | exact line_g3 .. | exact line_g4 ..); (simp only [Act.put, List.setIfInBounds_toArray, List.set_cons_zero, List.set_cons_succ]))) | go_big_quiet_step (fail))
                            refine wpQuiet_nil ?_
                            clear H
                            intro _ H
                            go_wp2_with (first | go_skip | ((with_reducible show wpList _ _ _ (_ :: _) _ _); (with_reducible apply wpl_putM map_ty); (· rfl); (· rfl); (· rfl); (· rfl); (· exact k1.out); (· exact H); (· exact HPM.out); (· (repeat (first | (with_reducible exact Repl.here) | with_reducible apply Repl.there))); (clear H; intro _ H); (simp only [Act.put, List.setIfInBounds_toArray, List.set_cons_zero, List.set_cons_succ])))
                            refine ⟨⟨0 + 1, by omega, rfl, rfl, by go_num, by rw [HT2.out]; exact HG2.out, by rw [HT2.out]; exact H.tail.tail⟩, ?measure3⟩
                            case measure3 => simp [intOf]; omega
                          · obtain ⟨i, rfl⟩ : ∃ i, j = i + 1 := ⟨j - 1, by omega⟩
                            have hiX : i < X.length := by have := HXL.out; omega
                            have hlen2 : i * 5 + 5 ≤ (linL X).length := by rw [linL_len]; omega
                            have hrow2 := linL_row X i hiX
                            have hge : X[i]? = some X[i] := List.getElem?_eq_getElem hiX
                            have hya := HXX.out _ (List.getElem_mem hiX)
                            generalize X[i] = y at *
                            have HGI := Lib.hid hge
                            clear hge hiX
                            have HR2 := Lib.hid (fun (w' : World) (h : Heap W (Cel pe (ends (a : Int) (b : Int) (c : Int)) 118 :: Cel px (line (a : Int) (b : Int) (c : Int) li de) 39 :: LdC p P (some q) :: LdM q (X.take (i + 1)) :: l) w') => HRX.out _ w' (fun t ht => List.mem_cons_of_mem _ (List.mem_cons_of_mem _ (List.mem_cons_of_mem _ (List.mem_cons_of_mem _ ht)))) h)
                            have hlt := cfL_lt hya.small HSM.out
                            have O := (order_ans y ⟨(a : Int), (b : Int), (c : Int), li, de⟩).ans
                            simp only at O
                            have hw1 : wrap64 (((i + 1 : Nat) : Int) - 1) = (i : Int) := by rw [show ((i + 1 : Nat) : Int) - 1 = (i : Int) by omega]; exact IntWalk.wrap64_in _ ⟨by omega, by omega⟩
                            have hw2 : ((i + 1 : Nat) : Int) - 1 = (i : Int) := by omega
                            have HGE2 := Lib.hid (show 0 < (i + 1) from by omega)
                            by_cases hc : cfL y ⟨(a : Int), (b : Int), (c : Int), li, de⟩ < 0
                            · have HLT := Lib.hid (last_lt (r := Lin.rank) HGI.out HG.out.ord (hlt.1 hc))
                              generalize cfL y ⟨(a : Int), (b : Int), (c : Int), li, de⟩ = o at *
                              have f5 : decide (o ≥ 0) = false := decide_eq_false (by omega)
                              have f6 : decide (0 ≤ o) = false := decide_eq_false (by omega)
                              clear hlt hya hc
                              refine wp_region_H H (by kernel_rfl) (by kernel_rfl) ?_
                              repeat (first | go_big_quiet_skip | (first | ((with_reducible apply wpQ_loadRH row_line); (· rfl); (· rfl); (· (repeat (first | (with_reducible exact List.mem_cons_self) | with_reducible apply List.mem_cons_of_mem))); (· (simp only [line_sz, Nat.reduceAdd, Nat.reduceLeDiff, Nat.le_refl]; done)); (· with_reducible exact line_all ..); (simp only [Act.put, List.setIfInBounds_toArray, List.set_cons_zero, List.set_cons_succ])) | ((with_reducible apply wpQ_loadRdR row_line); (· rfl); (· rfl); (· exact HR2.out); (· rfl); (· exact hlen2); (· decide); (· exact hrow2); (simp only [Act.put, List.setIfInBounds_toArray, List.set_cons_zero, List.set_cons_succ]))) | go_big_quiet_step ((with_reducible first | exact AnsH.quiet (by assumption) | exact Ans.quietH (by assumption))))
                              refine wpQuiet_nil ?_
                              clear H
                              intro _ H
                              clear O hrow2 hlen2 f5 f6 hw1 hw2
                              go_wp2_with (go_skip)
                              have HPM := Lib.hid (put_set (x := ⟨(a : Int), (b : Int), (c : Int), li, de⟩) HG.out.ord HG.out.smalls HSM.out (by simp only; omega))
                              rw [setL_last HLT.out (by simp only; omega), ← take_snoc' HGE.out] at HPM
                              have k1 := Lib.hid (key_nat a b c (by omega) (by omega) (by omega))
                              have HG2 := Lib.hid (show (⟨P, X.take ((i + 1) + 1)⟩ : Lgr).Good by
                                rw [take_snoc' HGE.out]
                                refine good_snoc HG.out ⟨HP.out.1, HP.out.2, ?_, ?_, ?_, ?_⟩ HLT.out ?_
                                · have := HB.out; unfold badEnds at this; simp only; omega
                                · have := HB.out; unfold badEnds at this; simp only; omega
                                · simp only; omega
                                · simp only; omega
                                · rw [List.length_take]; omega)
                              refine wp_region_H_tail 10 H (by kernel_rfl) (by kernel_rfl) ?_
                              simp only [List.take_succ_cons, List.take_zero, List.drop_succ_cons, List.drop_zero]
                              repeat (first | go_big_quiet_skip | (first | ((with_reducible apply wpQ_loadCH); (· exact cell_map); (· rfl); (· rfl); (· (repeat (first | (with_reducible exact List.mem_cons_self) | with_reducible apply List.mem_cons_of_mem))); (· exact ledA_map _ _); (simp only [Act.put, List.setIfInBounds_toArray, List.set_cons_zero, List.set_cons_succ])) | ((with_reducible apply wpQ_loadRH row_ends); (· rfl); (· rfl); (· (repeat (first | (with_reducible exact List.mem_cons_self) | with_reducible apply List.mem_cons_of_mem))); (· (simp only [ends_sz, Nat.reduceAdd, Nat.reduceLeDiff, Nat.le_refl]; done)); (· with_reducible exact ends_all ..); (simp only [Act.put, List.setIfInBounds_toArray, List.set_cons_zero, List.set_cons_succ])) | ((with_reducible apply wpQ_loadCH); (· exact cell_i64); (· rfl); (· rfl); (· (repeat (first | (with_reducible exact List.mem_cons_self) | with_reducible apply List.mem_cons_of_mem))); (· with_reducible first | exact line_g3 .. | exact line_g4 ..); (simp only [Act.put, List.setIfInBounds_toArray, List.set_cons_zero, List.set_cons_succ]))) | go_big_quiet_step (fail))
                              refine wpQuiet_nil ?_
                              clear H
                              intro _ H
                              go_wp2_with (first | go_skip | ((with_reducible show wpList _ _ _ (_ :: _) _ _); (with_reducible apply wpl_putM map_ty); (· rfl); (· rfl); (· rfl); (· rfl); (· exact k1.out); (· exact H); (· exact HPM.out); (· (repeat (first | (with_reducible exact Repl.here) | with_reducible apply Repl.there))); (clear H; intro _ H); (simp only [Act.put, List.setIfInBounds_toArray, List.set_cons_zero, List.set_cons_succ])))
                              refine ⟨⟨(i + 1) + 1, by omega, rfl, rfl, by go_num, HG2.out, H.tail.tail⟩, ?measure4⟩
                              case measure4 => simp [intOf]; omega
                            · have HNR := Lib.hid (fun h => hc (hlt.2 h))
                              generalize cfL y ⟨(a : Int), (b : Int), (c : Int), li, de⟩ = o at *
                              have f5 : decide (o ≥ 0) = true := decide_eq_true (by omega)
                              have f6 : decide (0 ≤ o) = true := decide_eq_true (by omega)
                              clear hlt hya hc
                              refine wp_region_H H (by kernel_rfl) (by kernel_rfl) ?_
                              repeat (first | go_big_quiet_skip | (first | ((with_reducible apply wpQ_loadRH row_line); (· rfl); (· rfl); (· (repeat (first | (with_reducible exact List.mem_cons_self) | with_reducible apply List.mem_cons_of_mem))); (· (simp only [line_sz, Nat.reduceAdd, Nat.reduceLeDiff, Nat.le_refl]; done)); (· with_reducible exact line_all ..); (simp only [Act.put, List.setIfInBounds_toArray, List.set_cons_zero, List.set_cons_succ])) | ((with_reducible apply wpQ_loadRdR row_line); (· rfl); (· rfl); (· exact HR2.out); (· rfl); (· exact hlen2); (· decide); (· exact hrow2); (simp only [Act.put, List.setIfInBounds_toArray, List.set_cons_zero, List.set_cons_succ]))) | go_big_quiet_step ((with_reducible first | exact AnsH.quiet (by assumption) | exact Ans.quietH (by assumption))))
                              refine wpQuiet_nil ?_
                              clear H
                              intro _ H
                              clear O hrow2 hlen2 f5 f6 hw1 hw2
                              go_wp2_with (go_skip)
                              go_ret2
                              exact .inl ⟨rfl, .inr ⟨by have := HXL.out; omega, fun G => HNR.out (pw_get HGI.out HGE.out (by omega) G.ord)⟩, H.tail.tail.tail.tail⟩
                · have e2 : hasP P (b : Int) = false := decide_eq_false hp2
                  refine wp_region_H H (by kernel_rfl) (by kernel_rfl) ?_
                  repeat (first | go_big_quiet_skip | (first | ((with_reducible apply wpQ_loadCH); (· exact cell_party); (· rfl); (· rfl); (· (repeat (first | (with_reducible exact List.mem_cons_self) | with_reducible apply List.mem_cons_of_mem))); (· with_reducible first | exact ends_g0 .. | exact ends_g1 ..); (simp only [Act.put, List.setIfInBounds_toArray, List.set_cons_zero, List.set_cons_succ])) | ((with_reducible apply wpQ_loadCH); (· exact cell_bool); (· rfl); (· rfl); (· (repeat (first | (with_reducible exact List.mem_cons_self) | with_reducible apply List.mem_cons_of_mem))); (· first | exact ledA_getb _ _ c17 e1 | exact ledA_getb _ _ d17 e2); (simp only [Act.put, List.setIfInBounds_toArray, List.set_cons_zero, List.set_cons_succ]))) | go_big_quiet_step (fail))
                  refine wpQuiet_nil ?_
                  clear H
                  intro _ H
                  go_wp2_with (go_skip)
                  go_ret2
                  exact .inl ⟨rfl, .inr ⟨by have := HXL.out; omega, fun G => by have g := G.ok _ (List.mem_of_getElem? HGE.out); exact hp2 g.db⟩, H.tail.tail.tail.tail⟩
              · have e1 : hasP P (a : Int) = false := decide_eq_false hp1
                refine wp_region_H H (by kernel_rfl) (by kernel_rfl) ?_
                repeat (first | go_big_quiet_skip | (first | ((with_reducible apply wpQ_loadCH); (· exact cell_party); (· rfl); (· rfl); (· (repeat (first | (with_reducible exact List.mem_cons_self) | with_reducible apply List.mem_cons_of_mem))); (· with_reducible first | exact ends_g0 .. | exact ends_g1 ..); (simp only [Act.put, List.setIfInBounds_toArray, List.set_cons_zero, List.set_cons_succ])) | ((with_reducible apply wpQ_loadCH); (· exact cell_bool); (· rfl); (· rfl); (· (repeat (first | (with_reducible exact List.mem_cons_self) | with_reducible apply List.mem_cons_of_mem))); (· first | exact ledA_getb _ _ c17 e1 | exact ledA_getb _ _ d17 e2); (simp only [Act.put, List.setIfInBounds_toArray, List.set_cons_zero, List.set_cons_succ]))) | go_big_quiet_step (fail))
                refine wpQuiet_nil ?_
                clear H
                intro _ H
                go_wp2_with (go_skip)
                go_ret2
                exact .inl ⟨rfl, .inr ⟨by have := HXL.out; omega, fun G => by have g := G.ok _ (List.mem_of_getElem? HGE.out); exact hp1 g.cr⟩, H.tail.tail.tail.tail⟩
          · obtain rfl : j = xn := by omega
            have eX : X.take j = X := List.take_of_length_le (by rw [HXL.out]; exact Nat.le_refl _)
            rw [eX] at H
            have HG2 := Lib.hid (show (⟨P, X⟩ : Lgr).Good from eX ▸ HG.out)
            clear eX HG
            go_wp2_with (go_skip)
            go_ret2
            exact .inr (.inr ⟨p, q, rfl, HG2.out, H⟩)
end
end Go.Proofs.Ytacglcpjbepfnaa
