/- countinghouselaw08.Least: can nothing less be left? -/
import Derived.Test.YtbmmdfjabkpoeaaFair8
import Derived.Test.YtbmmdfjabkpoeaaRndHPart9
namespace Go.Proofs.Ytbmmdfjabkpoeaa
open Go.RowKit
set_option linter.unusedSimpArgs false
set_option linter.unusedVariables false
def up8 (c : Nat → Nat → Int) (a b : Nat) (v : Int) : Nat → Nat → Int := fun x y => if x = a ∧ y = b then v else c x y
def mt8 (c : Nat → Nat → Int) : Array Value := tab 289 fun i => .int .i64 (c (i / 17) (i % 17))
theorem idx8 {a b : Nat} (hb : b < 17) : (a * 17 + b) / 17 = a ∧ (a * 17 + b) % 17 = b := by omega
theorem mt8_sz (c : Nat → Nat → Int) : (mt8 c).size = 289 := tab_size _ _
theorem mt8_get (c : Nat → Nat → Int) {a b : Nat} (ha : a < 17) (hb : b < 17) : (mt8 c)[a * 17 + b]? = some (.int .i64 (c a b)) := by
  unfold mt8
  rw [tab_get _ (by omega), (idx8 hb).1, (idx8 hb).2]
theorem mt8_set (c : Nat → Nat → Int) {a b : Nat} (ha : a < 17) (hb : b < 17) (v : Int) : (mt8 c).setIfInBounds (a * 17 + b) (.int .i64 v) = mt8 (up8 c a b v) := by
  unfold mt8
  rw [tab_set _ _ (by omega)]
  apply tab_congr
  intro i hi
  unfold up8
  by_cases e : i = a * 17 + b
  · subst e
    rw [if_pos rfl, if_pos ⟨(idx8 hb).1, (idx8 hb).2⟩]
  · rw [if_neg e, if_neg (by omega)]
theorem row_mt8 : RowTy 72 289 (mt8 fun _ _ => 0) := ⟨⟨_, Try.underlying72, rfl⟩, by kernel_rfl, by kernel_rfl⟩
theorem cell_int9 : CellTy 3 := ⟨⟨_, Try.underlying3, rfl⟩, by kernel_rfl⟩
/-- Costs that no height forbids. -/
def Qm (D : Nat → Int) (c : Nat → Nat → Int) : Prop := ∀ x y, x < 17 → y < 17 → D y - D x ≤ c x y ∧ -1048576 ≤ c x y ∧ c x y ≤ 1048576
theorem Qm.set {D : Nat → Int} {c : Nat → Nat → Int} (h : Qm D c) (a b : Nat) (v : Int) (h1 : D b - D a ≤ v) (h2 : -1048576 ≤ v ∧ v ≤ 1048576) : Qm D (up8 c a b v) := by
  intro x y hx hy
  unfold up8
  by_cases e : x = a ∧ y = b
  · rw [if_pos e, e.1, e.2]; exact ⟨h1, h2⟩
  · rw [if_neg e]; exact h x y hx hy
structure FwA (W : World) (l : List Thing) (pc : Nat) (i : Value) (wr : World) : Prop where
  out : ∃ (k : Nat) (c : Nat → Nat → Int), k ≤ 17 ∧ i = .int .i64 (k : Int) ∧ (∀ x y, x < k → y < 17 → c x y = 1048576) ∧ Heap W (Cel pc (mt8 c) 72 :: l) wr
structure FwB (W : World) (l : List Thing) (pc k : Nat) (i : Value) (wr : World) : Prop where
  out : ∃ (j : Nat) (c : Nat → Nat → Int), j ≤ 17 ∧ i = .int .i64 (j : Int) ∧ (∀ x y, x < k → y < 17 → c x y = 1048576) ∧ (∀ y, y < j → c k y = 1048576) ∧ Heap W (Cel pc (mt8 c) 72 :: l) wr
structure FwR (W : World) (l : List Thing) (D : Nat → Int) (pc s n : Nat) (i : Value) (wr : World) : Prop where
  out : ∃ (k : Nat) (c : Nat → Nat → Int), s ≤ k ∧ k ≤ n ∧ i = .int .i64 (k : Int) ∧ Qm D c ∧ Heap W (Cel pc (mt8 c) 72 :: l) wr
section
variable {W w : World} {l : List Thing}
set_option maxRecDepth 100000
set_option maxHeartbeats 16000000
attribute [local go_sem high] run_min2
theorem fw8_H (a b : Option Addr) (n m c d : Nat) (F : List Flw) (N : List Int) (hM : MayD F) (I : InvN F N) (hl : (leftL F N).length = n) (hf : F.length = m) (hm : m ≤ 1000) (hp : HasPot (edD F N))
    (RL : ∀ l' w', (∀ x ∈ l, x ∈ l') → Heap W l' w' → Rd w' a (flwL (leftL F N))) (RF : ∀ l' w', (∀ x ∈ l, x ∈ l') → Heap W l' w' → Rd w' b (flwL F)) :
    AnsH W l 18 #[.slice a n c, .slice b m d] (.bool true) := by
  intro w H
  obtain ⟨D, hD1, hD2⟩ := hp
  have hln : n ≤ m := by rw [← hl, ← hf]; exact leftL_len F N
  have HM := Lib.hid hM
  have HI := Lib.hid I
  have HN := Lib.hid (I.len.trans hf)
  have HL := Lib.hid hl
  have HF := Lib.hid hf
  have HRL := Lib.hid RL
  have HRF := Lib.hid RF
  have HD1 := Lib.hid hD1
  have HD2 := Lib.hid hD2
  clear hl hf RL RF hM I hD1 hD2
  go_enter Try.func18, Try.ntmps18
  go_wp2_with (first | go_skip | ((with_reducible show wpList _ _ _ (_ :: _) _ _); (with_reducible apply wpl_allocRH row_mt8); (· rfl); (· exact H); (clear H; intro pc _ H); (simp only [Act.put, List.setIfInBounds_toArray, List.set_cons_zero, List.set_cons_succ])))
  have H0 := H
  clear H
  go_loopw [6] (fun i wr => FwA W l pc i wr) (fun i _ => 17 - (intOf i).toNat)
  case atStart => exact ⟨0, _, Nat.zero_le _, rfl, fun x y hx => absurd hx (by omega), H0⟩
  case round =>
    obtain ⟨k, c0, hk, rfl, hc, H⟩ := hrel.out
    clear H0 hrel
    have HC := Lib.hid hc
    clear hc
    by_cases hlt : k < 17
    · go_wp2_with (go_skip)
      have H0 := H
      clear H
      go_loopw [7] (fun i wr => FwB W l pc k i wr) (fun i _ => 17 - (intOf i).toNat)
      case atStart => exact ⟨0, c0, Nat.zero_le _, rfl, HC.out, fun y hy => absurd hy (by omega), H0⟩
      case round =>
        obtain ⟨j, c1, hj, rfl, h1, h2, H⟩ := hrel.out
        clear H0 hrel HC
        have HX := Lib.hid (And.intro h1 h2)
        clear h1 h2
        by_cases hlt2 : j < 17
        · go_wp2_with (first | go_skip | ((with_reducible show wpList _ _ _ (_ :: _) _ _); (with_reducible apply wpl_storeIH); (· exact cell_int9); (· rfl); (· rfl); (· rfl); (· exact H); (· (repeat (first | (with_reducible exact List.mem_cons_self) | with_reducible apply List.mem_cons_of_mem))); (· (rw [mt8_sz]; omega)); (· with_reducible exact mt8_set _ hlt hlt2 _); (· (repeat (first | (with_reducible exact Repl.here) | with_reducible apply Repl.there))); (clear H; intro _ H); (simp only [Act.put, List.setIfInBounds_toArray, List.set_cons_zero, List.set_cons_succ])))
          refine ⟨⟨j + 1, _, by omega, by go_num, fun x y hx hy => ?_, fun y hy => ?_, H⟩, ?measure1⟩
          case measure1 => simp [intOf]; omega
          · unfold up8; rw [if_neg (by omega)]; exact HX.out.1 x y hx hy
          · unfold up8
            by_cases e : y = j
            · rw [if_pos ⟨rfl, e⟩]
            · rw [if_neg (by omega)]; exact HX.out.2 y (by omega)
        · have dk : decide ((j : Int) < 17) = false := decide_eq_false (by omega)
          go_wp2_with (go_skip)
          refine ⟨⟨k + 1, c1, by omega, by go_num, fun x y hx hy => ?_, H⟩, ?measure2⟩
          case measure2 => simp [intOf]; omega
          by_cases e : x = k
          · subst e; exact HX.out.2 y (by omega)
          · exact HX.out.1 x y (by omega) hy
    · have dk : decide ((k : Int) < 17) = false := decide_eq_false (by omega)
      have hQ : Qm D c0 := fun x y hx hy => by
        rw [HC.out x y (by omega) hy]
        have := HD1.out x
        have := HD1.out y
        omega
      clear HC
      go_wp2_with (go_skip)
      have H0 := H
      clear H
      go_loopw [8] (fun i wr => FwR W l D pc 0 m i wr) (fun i _ => m - (intOf i).toNat)
      case atStart => exact ⟨0, c0, Nat.le_refl _, Nat.zero_le _, rfl, hQ, H0⟩
      case round =>
        clear hQ
        obtain ⟨k, c1, _, hk, rfl, hQ, H⟩ := hrel.out
        clear H0 hrel
        have HQ := Lib.hid hQ
        clear hQ
        by_cases hlt : k < m
        · have hfk : F[k]? = some (F[k]'(by rw [HF.out]; exact hlt)) := List.getElem?_eq_getElem _
          have hnk : N[k]? = some (N[k]'(by rw [HN.out]; exact hlt)) := List.getElem?_eq_getElem _
          have hrow := flwL_at F k (by rw [HF.out]; exact hlt)
          have hlen : k * 3 + 3 ≤ (flwL F).length := by rw [flwL_len, HF.out]; omega
          generalize F[k]'(by rw [HF.out]; exact hlt) = x at *
          generalize N[k]'(by rw [HN.out]; exact hlt) = z at *
          have hrw : (((flwL F).drop (k * 3)).take 3).toArray = flow (x.f : Int) (x.t : Int) x.n := by rw [hrow]; rfl
          have Rw := HRF.out _ wr (fun x hx => List.mem_cons_of_mem _ hx) H
          obtain ⟨eb, eo, rfl, _⟩ := Rw.lt (by omega)
          have hok := HM.out.okX hfk
          have hbd := HI.out.bnd k x z hfk hnk
          have hof := ofF_left HM.out HI.out hfk hnk
          have he1 : 0 < z → D x.t ≤ D x.f + -1 := fun h => HD2.out _ (edD_mem.2 ⟨k, x, z, hfk, hnk, .inl ⟨h, rfl⟩⟩)
          have he2 : z < x.n → D x.f ≤ D x.t + 1 := fun h => HD2.out _ (edD_mem.2 ⟨k, x, z, hfk, hnk, .inr ⟨h, rfl⟩⟩)
          obtain ⟨f, t, y⟩ := x
          simp only at hok hbd hof he1 he2 hrw
          have HE := Lib.hid (And.intro he1 he2)
          have HOF := Lib.hid hof
          have hf17 : f < 17 := by omega
          have ht17 : t < 17 := by omega
          have hz0 := hbd.1
          have hz1 := hbd.2
          have d1 : decide ((f : Int) > 16) = false := decide_eq_false (by omega)
          have d2 : decide ((t : Int) > 16) = false := decide_eq_false (by omega)
          clear hrow hfk hnk hok hbd hof he1 he2
          have A := fun px => of8_H (W := W) (l := Cel px (flow (f : Int) (t : Int) y) 39 :: Cel pc (mt8 c1) 72 :: l) a n c (leftL F N) f t HL.out (by omega) (fun w' h => HRL.out _ w' (fun x hx => List.mem_cons_of_mem _ (List.mem_cons_of_mem _ hx)) h)
          rw [HOF.out] at A
          by_cases h0 : 0 < z
          · have d3 : decide (z > 0) = true := decide_eq_true (by omega)
            by_cases h1 : z < y
            · have d4 : decide (z < y) = true := decide_eq_true (by omega)
              go_wp2_with (first
                | go_skip
                | ((with_reducible show wpList _ _ _ (_ :: _) _ _); (with_reducible apply wpl_loadRdR row_flow); (· rfl); (· rfl); (· exact Rw); (· rfl); (· exact hlen); (· decide); (· exact hrw); (simp only [Act.put, List.setIfInBounds_toArray, List.set_cons_zero, List.set_cons_succ]))
                | ((with_reducible show wpList _ _ _ (_ :: _) _ _); (with_reducible apply wpl_allocRH row_flow); (· rfl); (· exact H); (clear H; intro px _ H); (simp only [Act.put, List.setIfInBounds_toArray, List.set_cons_zero, List.set_cons_succ]))
                | ((with_reducible show wpList _ _ _ (_ :: _) _ _); (with_reducible apply wpl_storeRH row_flow); (· rfl); (· rfl); (· rfl); (· with_reducible exact flow_cells ..); (· exact H); (· (repeat (first | (with_reducible exact List.mem_cons_self) | with_reducible apply List.mem_cons_of_mem))); (· (simp only [flow_sz, Nat.reduceAdd, Nat.reduceLeDiff, Nat.le_refl]; done)); (· with_reducible exact flow_splice ..); (· (repeat (first | (with_reducible exact Repl.here) | with_reducible apply Repl.there))); (clear H; intro _ H); (simp only [Act.put, List.setIfInBounds_toArray, List.set_cons_zero, List.set_cons_succ]))
                | ((with_reducible show wpList _ _ _ (_ :: _) _ _); (with_reducible apply wpl_loadCH); (· first | exact cell_party | exact cell_i64); (· rfl); (· rfl); (· exact H); (· (repeat (first | (with_reducible exact List.mem_cons_self) | with_reducible apply List.mem_cons_of_mem))); (· (with_reducible first | exact flow_g0 .. | exact flow_g1 .. | exact flow_g2 ..)); (simp only [Act.put, List.setIfInBounds_toArray, List.set_cons_zero, List.set_cons_succ])))
              refine (A _ _ H).mono ?_
              clear H
              rintro _ _ ⟨rfl, H⟩
              go_wp2_with (first | go_skip | ((with_reducible show wpList _ _ _ (_ :: _) _ _); (with_reducible apply wpl_loadCH); (· first | exact cell_party | exact cell_i64); (· rfl); (· rfl); (· exact H); (· (repeat (first | (with_reducible exact List.mem_cons_self) | with_reducible apply List.mem_cons_of_mem))); (· (with_reducible first | exact flow_g0 .. | exact flow_g1 .. | exact flow_g2 ..)); (simp only [Act.put, List.setIfInBounds_toArray, List.set_cons_zero, List.set_cons_succ])))
              refine wp_region_H_tail 6 H (by kernel_rfl) (by kernel_rfl) ?_
              simp only [List.take_succ_cons, List.take_zero, List.drop_succ_cons, List.drop_zero]
              repeat (first | go_big_quiet_skip | (first | ((with_reducible apply wpQ_loadCH); (· first | exact cell_party | exact cell_i64); (· rfl); (· rfl); (· (repeat (first | (with_reducible exact List.mem_cons_self) | with_reducible apply List.mem_cons_of_mem))); (· (with_reducible first | exact flow_g0 .. | exact flow_g1 .. | exact flow_g2 ..)); (simp only [Act.put, List.setIfInBounds_toArray, List.set_cons_zero, List.set_cons_succ])) | ((with_reducible apply wpQ_loadCH); (· exact cell_int9); (· rfl); (· rfl); (· (repeat (first | (with_reducible exact List.mem_cons_self) | with_reducible apply List.mem_cons_of_mem))); (· with_reducible exact mt8_get _ ht17 hf17); (simp only [Act.put, List.setIfInBounds_toArray, List.set_cons_zero, List.set_cons_succ]))) | go_big_quiet_step (fail))
              refine wpQuiet_nil ?_
              clear H
              intro _ H
              go_wp2_with (first | go_skip | ((with_reducible show wpList _ _ _ (_ :: _) _ _); (with_reducible apply wpl_storeIH); (· exact cell_int9); (· rfl); (· rfl); (· rfl); (· exact H); (· (repeat (first | (with_reducible exact List.mem_cons_self) | with_reducible apply List.mem_cons_of_mem))); (· (rw [mt8_sz]; omega)); (· with_reducible exact mt8_set _ hf17 ht17 _); (· (repeat (first | (with_reducible exact Repl.here) | with_reducible apply Repl.there))); (clear H; intro _ H); (simp only [Act.put, List.setIfInBounds_toArray, List.set_cons_zero, List.set_cons_succ])) | ((with_reducible show wpList _ _ _ (_ :: _) _ _); (with_reducible apply wpl_loadCH); (· first | exact cell_party | exact cell_i64); (· rfl); (· rfl); (· exact H); (· (repeat (first | (with_reducible exact List.mem_cons_self) | with_reducible apply List.mem_cons_of_mem))); (· (with_reducible first | exact flow_g0 .. | exact flow_g1 .. | exact flow_g2 ..)); (simp only [Act.put, List.setIfInBounds_toArray, List.set_cons_zero, List.set_cons_succ])))
              have HQ2 := Lib.hid (HQ.out.set f t (-1) (by have := HE.out.1 h0; omega) (by omega))
              have hb2 := HQ2.out t f ht17 hf17
              refine wp_region_H_tail 14 H (by kernel_rfl) (by kernel_rfl) ?_
              simp only [List.take_succ_cons, List.take_zero, List.drop_succ_cons, List.drop_zero]
              repeat (first | go_big_quiet_skip | (first | ((with_reducible apply wpQ_loadCH); (· first | exact cell_party | exact cell_i64); (· rfl); (· rfl); (· (repeat (first | (with_reducible exact List.mem_cons_self) | with_reducible apply List.mem_cons_of_mem))); (· (with_reducible first | exact flow_g0 .. | exact flow_g1 .. | exact flow_g2 ..)); (simp only [Act.put, List.setIfInBounds_toArray, List.set_cons_zero, List.set_cons_succ])) | ((with_reducible apply wpQ_loadCH); (· exact cell_int9); (· rfl); (· rfl); (· (repeat (first | (with_reducible exact List.mem_cons_self) | with_reducible apply List.mem_cons_of_mem))); (· with_reducible exact mt8_get _ ht17 hf17); (simp only [Act.put, List.setIfInBounds_toArray, List.set_cons_zero, List.set_cons_succ]))) | go_big_quiet_step (fail))
              refine wpQuiet_nil ?_
              clear H
              intro _ H
              go_wp2_with (first | go_skip | ((with_reducible show wpList _ _ _ (_ :: _) _ _); (with_reducible apply wpl_storeIH); (· exact cell_int9); (· rfl); (· rfl); (· rfl); (· exact H); (· (repeat (first | (with_reducible exact List.mem_cons_self) | with_reducible apply List.mem_cons_of_mem))); (· (rw [mt8_sz]; omega)); (· with_reducible exact mt8_set _ ht17 hf17 _); (· (repeat (first | (with_reducible exact Repl.here) | with_reducible apply Repl.there))); (clear H; intro _ H); (simp only [Act.put, List.setIfInBounds_toArray, List.set_cons_zero, List.set_cons_succ])))
              have HQ3 := Lib.hid (Qm.set (HQ2.out) t f (min ((up8 c1 f t (-1)) t f) 1) (by have := HE.out.2 h1; omega) (by omega))
              refine ⟨⟨k + 1, _, Nat.zero_le _, by omega, by go_num, HQ3.out, H.drop .here⟩, ?measureA1⟩
              case measureA1 => simp [intOf]; omega
            · have d4 : decide (z < y) = false := decide_eq_false (by omega)
              go_wp2_with (first
                | go_skip
                | ((with_reducible show wpList _ _ _ (_ :: _) _ _); (with_reducible apply wpl_loadRdR row_flow); (· rfl); (· rfl); (· exact Rw); (· rfl); (· exact hlen); (· decide); (· exact hrw); (simp only [Act.put, List.setIfInBounds_toArray, List.set_cons_zero, List.set_cons_succ]))
                | ((with_reducible show wpList _ _ _ (_ :: _) _ _); (with_reducible apply wpl_allocRH row_flow); (· rfl); (· exact H); (clear H; intro px _ H); (simp only [Act.put, List.setIfInBounds_toArray, List.set_cons_zero, List.set_cons_succ]))
                | ((with_reducible show wpList _ _ _ (_ :: _) _ _); (with_reducible apply wpl_storeRH row_flow); (· rfl); (· rfl); (· rfl); (· with_reducible exact flow_cells ..); (· exact H); (· (repeat (first | (with_reducible exact List.mem_cons_self) | with_reducible apply List.mem_cons_of_mem))); (· (simp only [flow_sz, Nat.reduceAdd, Nat.reduceLeDiff, Nat.le_refl]; done)); (· with_reducible exact flow_splice ..); (· (repeat (first | (with_reducible exact Repl.here) | with_reducible apply Repl.there))); (clear H; intro _ H); (simp only [Act.put, List.setIfInBounds_toArray, List.set_cons_zero, List.set_cons_succ]))
                | ((with_reducible show wpList _ _ _ (_ :: _) _ _); (with_reducible apply wpl_loadCH); (· first | exact cell_party | exact cell_i64); (· rfl); (· rfl); (· exact H); (· (repeat (first | (with_reducible exact List.mem_cons_self) | with_reducible apply List.mem_cons_of_mem))); (· (with_reducible first | exact flow_g0 .. | exact flow_g1 .. | exact flow_g2 ..)); (simp only [Act.put, List.setIfInBounds_toArray, List.set_cons_zero, List.set_cons_succ])))
              refine (A _ _ H).mono ?_
              clear H
              rintro _ _ ⟨rfl, H⟩
              go_wp2_with (first | go_skip | ((with_reducible show wpList _ _ _ (_ :: _) _ _); (with_reducible apply wpl_loadCH); (· first | exact cell_party | exact cell_i64); (· rfl); (· rfl); (· exact H); (· (repeat (first | (with_reducible exact List.mem_cons_self) | with_reducible apply List.mem_cons_of_mem))); (· (with_reducible first | exact flow_g0 .. | exact flow_g1 .. | exact flow_g2 ..)); (simp only [Act.put, List.setIfInBounds_toArray, List.set_cons_zero, List.set_cons_succ])))
              refine wp_region_H_tail 6 H (by kernel_rfl) (by kernel_rfl) ?_
              simp only [List.take_succ_cons, List.take_zero, List.drop_succ_cons, List.drop_zero]
              repeat (first | go_big_quiet_skip | (first | ((with_reducible apply wpQ_loadCH); (· first | exact cell_party | exact cell_i64); (· rfl); (· rfl); (· (repeat (first | (with_reducible exact List.mem_cons_self) | with_reducible apply List.mem_cons_of_mem))); (· (with_reducible first | exact flow_g0 .. | exact flow_g1 .. | exact flow_g2 ..)); (simp only [Act.put, List.setIfInBounds_toArray, List.set_cons_zero, List.set_cons_succ])) | ((with_reducible apply wpQ_loadCH); (· exact cell_int9); (· rfl); (· rfl); (· (repeat (first | (with_reducible exact List.mem_cons_self) | with_reducible apply List.mem_cons_of_mem))); (· with_reducible exact mt8_get _ ht17 hf17); (simp only [Act.put, List.setIfInBounds_toArray, List.set_cons_zero, List.set_cons_succ]))) | go_big_quiet_step (fail))
              refine wpQuiet_nil ?_
              clear H
              intro _ H
              go_wp2_with (first | go_skip | ((with_reducible show wpList _ _ _ (_ :: _) _ _); (with_reducible apply wpl_storeIH); (· exact cell_int9); (· rfl); (· rfl); (· rfl); (· exact H); (· (repeat (first | (with_reducible exact List.mem_cons_self) | with_reducible apply List.mem_cons_of_mem))); (· (rw [mt8_sz]; omega)); (· with_reducible exact mt8_set _ hf17 ht17 _); (· (repeat (first | (with_reducible exact Repl.here) | with_reducible apply Repl.there))); (clear H; intro _ H); (simp only [Act.put, List.setIfInBounds_toArray, List.set_cons_zero, List.set_cons_succ])) | ((with_reducible show wpList _ _ _ (_ :: _) _ _); (with_reducible apply wpl_loadCH); (· first | exact cell_party | exact cell_i64); (· rfl); (· rfl); (· exact H); (· (repeat (first | (with_reducible exact List.mem_cons_self) | with_reducible apply List.mem_cons_of_mem))); (· (with_reducible first | exact flow_g0 .. | exact flow_g1 .. | exact flow_g2 ..)); (simp only [Act.put, List.setIfInBounds_toArray, List.set_cons_zero, List.set_cons_succ])))
              have HQ2 := Lib.hid (HQ.out.set f t (-1) (by have := HE.out.1 h0; omega) (by omega))
              refine ⟨⟨k + 1, _, Nat.zero_le _, by omega, by go_num, HQ2.out, H.drop .here⟩, ?measureA2⟩
              case measureA2 => simp [intOf]; omega
          · have d3 : decide (z > 0) = false := decide_eq_false (by omega)
            by_cases h1 : z < y
            · have d4 : decide (z < y) = true := decide_eq_true (by omega)
              go_wp2_with (first
                | go_skip
                | ((with_reducible show wpList _ _ _ (_ :: _) _ _); (with_reducible apply wpl_loadRdR row_flow); (· rfl); (· rfl); (· exact Rw); (· rfl); (· exact hlen); (· decide); (· exact hrw); (simp only [Act.put, List.setIfInBounds_toArray, List.set_cons_zero, List.set_cons_succ]))
                | ((with_reducible show wpList _ _ _ (_ :: _) _ _); (with_reducible apply wpl_allocRH row_flow); (· rfl); (· exact H); (clear H; intro px _ H); (simp only [Act.put, List.setIfInBounds_toArray, List.set_cons_zero, List.set_cons_succ]))
                | ((with_reducible show wpList _ _ _ (_ :: _) _ _); (with_reducible apply wpl_storeRH row_flow); (· rfl); (· rfl); (· rfl); (· with_reducible exact flow_cells ..); (· exact H); (· (repeat (first | (with_reducible exact List.mem_cons_self) | with_reducible apply List.mem_cons_of_mem))); (· (simp only [flow_sz, Nat.reduceAdd, Nat.reduceLeDiff, Nat.le_refl]; done)); (· with_reducible exact flow_splice ..); (· (repeat (first | (with_reducible exact Repl.here) | with_reducible apply Repl.there))); (clear H; intro _ H); (simp only [Act.put, List.setIfInBounds_toArray, List.set_cons_zero, List.set_cons_succ]))
                | ((with_reducible show wpList _ _ _ (_ :: _) _ _); (with_reducible apply wpl_loadCH); (· first | exact cell_party | exact cell_i64); (· rfl); (· rfl); (· exact H); (· (repeat (first | (with_reducible exact List.mem_cons_self) | with_reducible apply List.mem_cons_of_mem))); (· (with_reducible first | exact flow_g0 .. | exact flow_g1 .. | exact flow_g2 ..)); (simp only [Act.put, List.setIfInBounds_toArray, List.set_cons_zero, List.set_cons_succ])))
              refine (A _ _ H).mono ?_
              clear H
              rintro _ _ ⟨rfl, H⟩
              go_wp2_with (first | go_skip | ((with_reducible show wpList _ _ _ (_ :: _) _ _); (with_reducible apply wpl_loadCH); (· first | exact cell_party | exact cell_i64); (· rfl); (· rfl); (· exact H); (· (repeat (first | (with_reducible exact List.mem_cons_self) | with_reducible apply List.mem_cons_of_mem))); (· (with_reducible first | exact flow_g0 .. | exact flow_g1 .. | exact flow_g2 ..)); (simp only [Act.put, List.setIfInBounds_toArray, List.set_cons_zero, List.set_cons_succ])))
              have hb2 := HQ.out t f ht17 hf17
              refine wp_region_H_tail 14 H (by kernel_rfl) (by kernel_rfl) ?_
              simp only [List.take_succ_cons, List.take_zero, List.drop_succ_cons, List.drop_zero]
              repeat (first | go_big_quiet_skip | (first | ((with_reducible apply wpQ_loadCH); (· first | exact cell_party | exact cell_i64); (· rfl); (· rfl); (· (repeat (first | (with_reducible exact List.mem_cons_self) | with_reducible apply List.mem_cons_of_mem))); (· (with_reducible first | exact flow_g0 .. | exact flow_g1 .. | exact flow_g2 ..)); (simp only [Act.put, List.setIfInBounds_toArray, List.set_cons_zero, List.set_cons_succ])) | ((with_reducible apply wpQ_loadCH); (· exact cell_int9); (· rfl); (· rfl); (· (repeat (first | (with_reducible exact List.mem_cons_self) | with_reducible apply List.mem_cons_of_mem))); (· with_reducible exact mt8_get _ ht17 hf17); (simp only [Act.put, List.setIfInBounds_toArray, List.set_cons_zero, List.set_cons_succ]))) | go_big_quiet_step (fail))
              refine wpQuiet_nil ?_
              clear H
              intro _ H
              go_wp2_with (first | go_skip | ((with_reducible show wpList _ _ _ (_ :: _) _ _); (with_reducible apply wpl_storeIH); (· exact cell_int9); (· rfl); (· rfl); (· rfl); (· exact H); (· (repeat (first | (with_reducible exact List.mem_cons_self) | with_reducible apply List.mem_cons_of_mem))); (· (rw [mt8_sz]; omega)); (· with_reducible exact mt8_set _ ht17 hf17 _); (· (repeat (first | (with_reducible exact Repl.here) | with_reducible apply Repl.there))); (clear H; intro _ H); (simp only [Act.put, List.setIfInBounds_toArray, List.set_cons_zero, List.set_cons_succ])))
              have HQ3 := Lib.hid (Qm.set (HQ.out) t f (min (c1 t f) 1) (by have := HE.out.2 h1; omega) (by omega))
              refine ⟨⟨k + 1, _, Nat.zero_le _, by omega, by go_num, HQ3.out, H.drop .here⟩, ?measureA3⟩
              case measureA3 => simp [intOf]; omega
            · have d4 : decide (z < y) = false := decide_eq_false (by omega)
              go_wp2_with (first
                | go_skip
                | ((with_reducible show wpList _ _ _ (_ :: _) _ _); (with_reducible apply wpl_loadRdR row_flow); (· rfl); (· rfl); (· exact Rw); (· rfl); (· exact hlen); (· decide); (· exact hrw); (simp only [Act.put, List.setIfInBounds_toArray, List.set_cons_zero, List.set_cons_succ]))
                | ((with_reducible show wpList _ _ _ (_ :: _) _ _); (with_reducible apply wpl_allocRH row_flow); (· rfl); (· exact H); (clear H; intro px _ H); (simp only [Act.put, List.setIfInBounds_toArray, List.set_cons_zero, List.set_cons_succ]))
                | ((with_reducible show wpList _ _ _ (_ :: _) _ _); (with_reducible apply wpl_storeRH row_flow); (· rfl); (· rfl); (· rfl); (· with_reducible exact flow_cells ..); (· exact H); (· (repeat (first | (with_reducible exact List.mem_cons_self) | with_reducible apply List.mem_cons_of_mem))); (· (simp only [flow_sz, Nat.reduceAdd, Nat.reduceLeDiff, Nat.le_refl]; done)); (· with_reducible exact flow_splice ..); (· (repeat (first | (with_reducible exact Repl.here) | with_reducible apply Repl.there))); (clear H; intro _ H); (simp only [Act.put, List.setIfInBounds_toArray, List.set_cons_zero, List.set_cons_succ]))
                | ((with_reducible show wpList _ _ _ (_ :: _) _ _); (with_reducible apply wpl_loadCH); (· first | exact cell_party | exact cell_i64); (· rfl); (· rfl); (· exact H); (· (repeat (first | (with_reducible exact List.mem_cons_self) | with_reducible apply List.mem_cons_of_mem))); (· (with_reducible first | exact flow_g0 .. | exact flow_g1 .. | exact flow_g2 ..)); (simp only [Act.put, List.setIfInBounds_toArray, List.set_cons_zero, List.set_cons_succ])))
              refine (A _ _ H).mono ?_
              clear H
              rintro _ _ ⟨rfl, H⟩
              go_wp2_with (first | go_skip | ((with_reducible show wpList _ _ _ (_ :: _) _ _); (with_reducible apply wpl_loadCH); (· first | exact cell_party | exact cell_i64); (· rfl); (· rfl); (· exact H); (· (repeat (first | (with_reducible exact List.mem_cons_self) | with_reducible apply List.mem_cons_of_mem))); (· (with_reducible first | exact flow_g0 .. | exact flow_g1 .. | exact flow_g2 ..)); (simp only [Act.put, List.setIfInBounds_toArray, List.set_cons_zero, List.set_cons_succ])))
              refine ⟨⟨k + 1, _, Nat.zero_le _, by omega, by go_num, HQ.out, H.drop .here⟩, ?measureA4⟩
              case measureA4 => simp [intOf]; omega
        · obtain rfl : m = k := by omega
          skip
          go_wp2_with (go_skip)
          have H0 := H
          clear H
          go_loopw [11] (fun i wr => FwR W l D pc 1 17 i wr) (fun i _ => 17 - (intOf i).toNat)
          case atStart => exact ⟨1, c1, by omega, by omega, rfl, HQ.out, H0⟩
          case round =>
            clear HQ
            obtain ⟨u, c2, hu1, hu, rfl, hQ, H⟩ := hrel.out
            clear H0 hrel
            have HQ := Lib.hid hQ
            clear hQ
            by_cases hm17 : u < 17
            · go_wp2_with (go_skip)
              have H0 := H
              clear H
              go_loopw [12] (fun i wr => FwR W l D pc 1 17 i wr) (fun i _ => 17 - (intOf i).toNat)
              case atStart => exact ⟨1, c2, by omega, by omega, rfl, HQ.out, H0⟩
              case round =>
                clear HQ
                obtain ⟨v, c3, hv1, hv, rfl, hQ, H⟩ := hrel.out
                clear H0 hrel
                have HQ := Lib.hid hQ
                clear hQ
                by_cases ha17 : v < 17
                · go_wp2_with (go_skip)
                  have H0 := H
                  clear H
                  go_loopw [13] (fun i wr => FwR W l D pc 1 17 i wr) (fun i _ => 17 - (intOf i).toNat)
                  case atStart => exact ⟨1, c3, by omega, by omega, rfl, HQ.out, H0⟩
                  case round =>
                    clear HQ
                    obtain ⟨s, c4, hs1, hs, rfl, hQ, H⟩ := hrel.out
                    clear H0 hrel
                    have HQ := Lib.hid hQ
                    clear hQ
                    by_cases hb17 : s < 17
                    · have q1 := HQ.out v u ha17 hm17
                      have q2 := HQ.out u s hm17 hb17
                      have q3 := HQ.out v s ha17 hb17
                      have HQQ := Lib.hid (And.intro q1.1 (And.intro q2.1 q3.1))
                      replace q1 := q1.2
                      replace q2 := q2.2
                      replace q3 := q3.2
                      by_cases h0 : c4 v u < 1048576
                      · have d0 : decide (c4 v u < 1048576) = true := decide_eq_true h0
                        by_cases h1 : c4 u s < 1048576
                        · have d1 : decide (c4 u s < 1048576) = true := decide_eq_true h1
                          go_wp2_with (first | go_skip | ((with_reducible show wpList _ _ _ (_ :: _) _ _); (with_reducible apply wpl_loadCH); (· exact cell_int9); (· rfl); (· rfl); (· exact H); (· (repeat (first | (with_reducible exact List.mem_cons_self) | with_reducible apply List.mem_cons_of_mem))); (· with_reducible first | exact mt8_get _ ha17 hm17 | exact mt8_get _ hm17 hb17); (simp only [Act.put, List.setIfInBounds_toArray, List.set_cons_zero, List.set_cons_succ])))
                          refine wp_region_H_tail 22 H (by kernel_rfl) (by kernel_rfl) ?_
                          simp only [List.take_succ_cons, List.take_zero, List.drop_succ_cons, List.drop_zero]
                          repeat (first | go_big_quiet_skip | ((with_reducible apply wpQ_loadCH); (· exact cell_int9); (· rfl); (· rfl); (· (repeat (first | (with_reducible exact List.mem_cons_self) | with_reducible apply List.mem_cons_of_mem))); (· with_reducible first | exact mt8_get _ ha17 hb17 | exact mt8_get _ ha17 hm17 | exact mt8_get _ hm17 hb17); (simp only [Act.put, List.setIfInBounds_toArray, List.set_cons_zero, List.set_cons_succ])) | go_big_quiet_step (fail))
                          refine wpQuiet_nil ?_
                          clear H
                          intro _ H
                          go_wp2_with (first | go_skip | ((with_reducible show wpList _ _ _ (_ :: _) _ _); (with_reducible apply wpl_storeIH); (· exact cell_int9); (· rfl); (· rfl); (· rfl); (· exact H); (· (repeat (first | (with_reducible exact List.mem_cons_self) | with_reducible apply List.mem_cons_of_mem))); (· (rw [mt8_sz]; omega)); (· with_reducible exact mt8_set _ ha17 hb17 _); (· (repeat (first | (with_reducible exact Repl.here) | with_reducible apply Repl.there))); (clear H; intro _ H); (simp only [Act.put, List.setIfInBounds_toArray, List.set_cons_zero, List.set_cons_succ])))
                          refine ⟨⟨s + 1, _, by omega, by omega, by go_num, HQ.out.set v s _ ?_ ?_, H⟩, ?measureB1⟩
                          case measureB1 => simp [intOf]; omega
                          · have := HQQ.out; split <;> omega
                          · split <;> omega
                        · have d1 : decide (c4 u s < 1048576) = false := decide_eq_false h1
                          go_wp2_with (first | go_skip | ((with_reducible show wpList _ _ _ (_ :: _) _ _); (with_reducible apply wpl_loadCH); (· exact cell_int9); (· rfl); (· rfl); (· exact H); (· (repeat (first | (with_reducible exact List.mem_cons_self) | with_reducible apply List.mem_cons_of_mem))); (· with_reducible first | exact mt8_get _ ha17 hm17 | exact mt8_get _ hm17 hb17); (simp only [Act.put, List.setIfInBounds_toArray, List.set_cons_zero, List.set_cons_succ])))
                          refine ⟨⟨s + 1, _, by omega, by omega, by go_num, HQ.out, H⟩, ?measureB2⟩
                          case measureB2 => simp [intOf]; omega
                      · have d0 : decide (c4 v u < 1048576) = false := decide_eq_false h0
                        go_wp2_with (first | go_skip | ((with_reducible show wpList _ _ _ (_ :: _) _ _); (with_reducible apply wpl_loadCH); (· exact cell_int9); (· rfl); (· rfl); (· exact H); (· (repeat (first | (with_reducible exact List.mem_cons_self) | with_reducible apply List.mem_cons_of_mem))); (· with_reducible first | exact mt8_get _ ha17 hm17 | exact mt8_get _ hm17 hb17); (simp only [Act.put, List.setIfInBounds_toArray, List.set_cons_zero, List.set_cons_succ])))
                        refine ⟨⟨s + 1, _, by omega, by omega, by go_num, HQ.out, H⟩, ?measureB3⟩
                        case measureB3 => simp [intOf]; omega
                    · have dk : decide ((s : Int) < 17) = false := decide_eq_false (by omega)
                      go_wp2_with (go_skip)
                      refine ⟨⟨v + 1, _, by omega, by omega, by go_num, HQ.out, H⟩, ?measureB4⟩
                      case measureB4 => simp [intOf]; omega
                · have dk : decide ((v : Int) < 17) = false := decide_eq_false (by omega)
                  go_wp2_with (go_skip)
                  refine ⟨⟨u + 1, _, by omega, by omega, by go_num, HQ.out, H⟩, ?measureB5⟩
                  case measureB5 => simp [intOf]; omega
            · have dk : decide ((u : Int) < 17) = false := decide_eq_false (by omega)
              go_wp2_with (go_skip)
              have H0 := H
              clear H
              go_loopw [14] (fun i wr => FwR W l D pc 1 17 i wr) (fun i _ => 17 - (intOf i).toNat)
              case atStart => exact ⟨1, c2, by omega, by omega, rfl, HQ.out, H0⟩
              case round =>
                clear HQ
                obtain ⟨s, c3, hs1, hs, rfl, hQ, H⟩ := hrel.out
                clear H0 hrel
                have HQ := Lib.hid hQ
                clear hQ
                by_cases hb17 : s < 17
                · have q1 := (HQ.out s s hb17 hb17).1
                  have d0 : decide (c3 s s < 0) = false := decide_eq_false (by omega)
                  go_wp2_with (first | go_skip | ((with_reducible show wpList _ _ _ (_ :: _) _ _); (with_reducible apply wpl_loadCH); (· exact cell_int9); (· rfl); (· rfl); (· exact H); (· (repeat (first | (with_reducible exact List.mem_cons_self) | with_reducible apply List.mem_cons_of_mem))); (· with_reducible exact mt8_get _ hb17 hb17); (simp only [Act.put, List.setIfInBounds_toArray, List.set_cons_zero, List.set_cons_succ])))
                  refine ⟨⟨s + 1, _, by omega, by omega, by go_num, HQ.out, H⟩, ?measureC1⟩
                  case measureC1 => simp [intOf]; omega
                · have dk : decide ((s : Int) < 17) = false := decide_eq_false (by omega)
                  go_wp2_with (go_skip)
                  go_ret
                  exact ⟨rfl, H.tail⟩
end
end Go.Proofs.Ytbmmdfjabkpoeaa
