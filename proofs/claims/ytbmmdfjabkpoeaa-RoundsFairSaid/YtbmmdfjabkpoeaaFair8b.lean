/- countinghouselaw08.Fair: does each stand as in the other list, and is no debt more? -/
import Derived.Test.YtbmmdfjabkpoeaaFair8
namespace Go.Proofs.Ytbmmdfjabkpoeaa
open Go.RowKit
set_option linter.unusedSimpArgs false
set_option linter.unusedVariables false
theorem row_17f8 : RowTy 69 17 (row17 fun _ => 0) := ⟨⟨_, Try.underlying69, rfl⟩, by kernel_rfl, by kernel_rfl⟩
theorem row17_all8 (c : Nat → Int) : (row17 c).extract 0 (0 + 17) = row17 c := by rw [Nat.zero_add]; exact Array.extract_eq_self_of_le (by rw [row17_sz]; exact Nat.le_refl _)
theorem eq17_run (w : World) : (binOp .eql 69 (.agg (row17 fun _ => 0)) (.agg (row17 fun _ => 0))).run Try.prog w = .ok (.bool true) w := by kernel_rfl
theorem dl_app (L : List Flw) (x : Flw) (p : Nat) : dl (L ++ [x]) p = dl L p + sg x p * x.n := by unfold dl; rw [List.map_append, List.sum_append]; simp
theorem dl_take {L : List Flw} {k : Nat} {x : Flw} (h : L[k]? = some x) (p : Nat) : dl (L.take (k + 1)) p = dl (L.take k) p + sg x p * x.n := by
  rw [List.take_add_one, h, Option.toList_some]
  exact dl_app _ _ _
theorem upd_sg (S : Nat → Int) (f t : Nat) (y : Int) : updN (updN S f (S f - y)) t (updN S f (S f - y) t + y) = fun p => S p + sg ⟨f, t, y⟩ p * y := by
  funext p
  unfold updN sg
  by_cases h1 : p = t
  · subst h1
    by_cases h2 : p = f
    · subst h2; simp
    · have h3 : ¬ f = p := fun e => h2 e.symm
      simp [h2, h3]
  · have h3 : ¬ t = p := fun e => h1 e.symm
    by_cases h2 : p = f
    · subst h2; simp [h1, h3]; omega
    · have h4 : ¬ f = p := fun e => h2 e.symm
      simp [h1, h2, h3, h4]
theorem upd_sg' (S : Nat → Int) (f t : Nat) (y : Int) : updN (updN S f (S f + y)) t (updN S f (S f + y) t - y) = fun p => S p - sg ⟨f, t, y⟩ p * y := by
  funext p
  unfold updN sg
  by_cases h1 : p = t
  · subst h1
    by_cases h2 : p = f
    · subst h2; simp
    · have h3 : ¬ f = p := fun e => h2 e.symm
      simp [h2, h3]
  · have h3 : ¬ t = p := fun e => h1 e.symm
    by_cases h2 : p = f
    · subst h2; simp [h1, h3]
    · have h4 : ¬ f = p := fun e => h2 e.symm
      simp [h1, h2, h3, h4]
theorem dl_bnd : ∀ (L : List Flw), (∀ x ∈ L, 0 ≤ x.n ∧ x.n ≤ 1099511627776) → ∀ p, -(1099511627776 * (L.length : Int)) ≤ dl L p ∧ dl L p ≤ 1099511627776 * (L.length : Int)
  | [], _, p => by simp [dl]
  | x :: L, h, p => by
    have h1 := h x List.mem_cons_self
    have h2 := dl_bnd L (fun y hy => h y (List.mem_cons_of_mem _ hy)) p
    have h3 : -x.n ≤ sg x p * x.n ∧ sg x p * x.n ≤ x.n := by
      unfold sg
      split <;> split <;> simp <;> omega
    unfold dl at *
    rw [List.map_cons, List.sum_cons, List.length_cons]
    omega
section
variable {W w : World} {l : List Thing} {ops : Array Oper} {rest : List Oper} {a : Act} {Q : Exit → Act → World → Prop} {dst : Option Tmp} {ty : TypeId} {pos : String} {after : Array Edge} {guard : Option (Nat × Bool)} {p q : Operand}
theorem wpl_eq17 (hw : Region.wanted ⟨dst, .binOp .eql 69 p q 69, ty, pos, after, guard⟩ (yielded ops a.tmps) = true) (hp : a.eval p = .agg (row17 fun _ => 0)) (hq : a.eval q = .agg (row17 fun _ => 0))
    (h : wpList Try.prog ops Q rest (a.put dst (.bool true)) w) : wpList Try.prog ops Q (⟨dst, .binOp .eql 69 p q 69, ty, pos, after, guard⟩ :: rest) a w := by
  have hg : (Try.prog.eqGuardType Try.prog.depth 69) = false := by kernel_rfl
  refine wpl_pure hw _ (fun w => ?_) h
  unfold execOp
  simp only [hp, hq, Sem.run_bind, eq17_run]
  simp [eqGuard, hg, eq17_run]
end
structure FaA (W : World) (l : List Thing) (L : List Flw) (ps n : Nat) (i : Value) (wr : World) : Prop where
  out : ∃ (k : Nat) (S : Nat → Int), k ≤ n ∧ i = .int .i64 (k : Int) ∧ (∀ p, S p = dl (L.take k) p) ∧ Heap W (Cel ps (row17 S) 69 :: l) wr
structure FaB (W : World) (l : List Thing) (L F : List Flw) (ps n : Nat) (i : Value) (wr : World) : Prop where
  out : ∃ (k : Nat) (S : Nat → Int), k ≤ n ∧ i = .int .i64 (k : Int) ∧ (∀ p, S p = dl L p - dl (F.take k) p) ∧ Heap W (Cel ps (row17 S) 69 :: l) wr
section
variable {W w : World} {l : List Thing}
set_option maxRecDepth 100000
set_option maxHeartbeats 8000000
theorem fair8_H (a b : Option Addr) (n m c d : Nat) (L F : List Flw) (hl : L.length = n) (hf : F.length = m) (hn : n ≤ 1000) (hm : m ≤ 1000) (hL : ∀ y ∈ L, y.f ≤ 16 ∧ y.t ≤ 16 ∧ 1 ≤ y.n ∧ y.n ≤ 1099511627776 ∧ y.n ≤ ofF F y.f y.t) (hF : ∀ y ∈ F, y.f ≤ 16 ∧ y.t ≤ 16 ∧ 0 ≤ y.n ∧ y.n ≤ 1099511627776) (hD : ∀ p, dl L p = dl F p)
    (RL : ∀ l' w', (∀ x ∈ l, x ∈ l') → Heap W l' w' → Rd w' a (flwL L)) (RF : ∀ l' w', (∀ x ∈ l, x ∈ l') → Heap W l' w' → Rd w' b (flwL F)) :
    AnsH W l 17 #[.slice a n c, .slice b m d] (.bool true) := by
  intro w H
  have HL := Lib.hid hl
  have HF := Lib.hid hf
  have HLo := Lib.hid hL
  have HFo := Lib.hid hF
  have HD := Lib.hid hD
  have HRL := Lib.hid RL
  have HRF := Lib.hid RF
  clear hl hf hL hF hD RL RF
  go_enter Try.func17, Try.ntmps17
  go_wp2_with (first | go_skip | ((with_reducible show wpList _ _ _ (_ :: _) _ _); (with_reducible apply wpl_allocRH row_17f8); (· rfl); (· exact H); (clear H; intro ps _ H); (simp only [Act.put, List.setIfInBounds_toArray, List.set_cons_zero, List.set_cons_succ])))
  have H0 := H
  clear H
  go_loopw [6] (fun i wr => FaA W l L ps n i wr) (fun i _ => n - (intOf i).toNat)
  case atStart => exact ⟨0, _, Nat.zero_le _, rfl, fun p => rfl, H0⟩
  case round =>
    obtain ⟨k, S, hk, rfl, hS, H⟩ := hrel.out
    clear H0 hrel
    by_cases hlt : k < n
    · have hfk : L[k]? = some (L[k]'(by rw [HL.out]; exact hlt)) := List.getElem?_eq_getElem _
      have hrow := flwL_at L k (by rw [HL.out]; exact hlt)
      have hlen : k * 3 + 3 ≤ (flwL L).length := by rw [flwL_len, HL.out]; omega
      generalize L[k]'(by rw [HL.out]; exact hlt) = x at *
      have hrw : (((flwL L).drop (k * 3)).take 3).toArray = flow (x.f : Int) (x.t : Int) x.n := by rw [hrow]; rfl
      have Rw := HRL.out _ wr (fun x hx => List.mem_cons_of_mem _ hx) H
      obtain ⟨eb, eo, rfl, _⟩ := Rw.lt (by omega)
      have ho := HLo.out x (List.mem_of_getElem? hfk)
      have hdt := fun p => dl_take hfk p
      have hb := dl_bnd (L.take k) fun y hy => by have := HLo.out y (List.mem_of_mem_take hy); exact ⟨by omega, by omega⟩
      rw [List.length_take, HL.out] at hb
      have hSb : ∀ p, -1099511627776000 ≤ S p ∧ S p ≤ 1099511627776000 := fun p => by have := hb p; rw [hS p]; omega
      obtain ⟨f, t, y⟩ := x
      simp only at ho hrw
      obtain ⟨ho1, ho2, ho3, ho4, ho5⟩ := ho
      have HOF := Lib.hid ho5
      have HDT := Lib.hid hdt
      have HS := Lib.hid hS
      have HSB := Lib.hid hSb
      have hf17 : f < 17 := by omega
      have ht17 : t < 17 := by omega
      clear hrow hfk hdt hS hb hSb ho5
      go_wp2_with (first
        | go_skip
        | ((with_reducible show wpList _ _ _ (_ :: _) _ _); (with_reducible apply wpl_loadRdR row_flow); (· rfl); (· rfl); (· exact Rw); (· rfl); (· exact hlen); (· decide); (· exact hrw); (simp only [Act.put, List.setIfInBounds_toArray, List.set_cons_zero, List.set_cons_succ]))
        | ((with_reducible show wpList _ _ _ (_ :: _) _ _); (with_reducible apply wpl_allocRH row_flow); (· rfl); (· exact H); (clear H; intro px _ H); (simp only [Act.put, List.setIfInBounds_toArray, List.set_cons_zero, List.set_cons_succ]))
        | ((with_reducible show wpList _ _ _ (_ :: _) _ _); (with_reducible apply wpl_storeRH row_flow); (· rfl); (· rfl); (· rfl); (· with_reducible exact flow_cells ..); (· exact H); (· (repeat (first | (with_reducible exact List.mem_cons_self) | with_reducible apply List.mem_cons_of_mem))); (· (simp only [flow_sz, Nat.reduceAdd, Nat.reduceLeDiff, Nat.le_refl]; done)); (· with_reducible exact flow_splice ..); (· (repeat (first | (with_reducible exact Repl.here) | with_reducible apply Repl.there))); (clear H; intro _ H); (simp only [Act.put, List.setIfInBounds_toArray, List.set_cons_zero, List.set_cons_succ]))
        | ((with_reducible show wpList _ _ _ (_ :: _) _ _); (with_reducible apply wpl_loadCH); (· first | exact cell_party | exact cell_i64); (· rfl); (· rfl); (· exact H); (· (repeat (first | (with_reducible exact List.mem_cons_self) | with_reducible apply List.mem_cons_of_mem))); (· (with_reducible first | exact flow_g0 .. | exact flow_g1 .. | exact flow_g2 ..)); (simp only [Act.put, List.setIfInBounds_toArray, List.set_cons_zero, List.set_cons_succ])))
      have A := of8_H (W := W) (l := Cel px (flow (f : Int) (t : Int) y) 39 :: Cel ps (row17 S) 69 :: l) b m d F f t HF.out (by omega) (fun w' h => HRF.out _ w' (fun x hx => List.mem_cons_of_mem _ (List.mem_cons_of_mem _ hx)) h)
      obtain ⟨z, hz⟩ : ∃ z, ofF F f t = z := ⟨_, rfl⟩
      have hzy : y ≤ z := by rw [← hz]; exact HOF.out
      rw [hz] at A
      clear hz
      have d1 : decide ((f : Int) > 16) = false := decide_eq_false (by omega)
      have g1 : decide (16 < f) = false := decide_eq_false (by omega)
      have d2 : decide ((t : Int) > 16) = false := decide_eq_false (by omega)
      have g2 : decide (16 < t) = false := decide_eq_false (by omega)
      have d3 : decide (y < 1) = false := decide_eq_false (by omega)
      have d4 : decide (y > z) = false := decide_eq_false (by omega)
      have d5 : decide (z < y) = false := decide_eq_false (by omega)
      refine wp_region_H H (by kernel_rfl) (by kernel_rfl) ?_
      repeat (first | go_big_quiet_skip | ((with_reducible apply wpQ_loadCH); (· first | exact cell_party | exact cell_i64); (· rfl); (· rfl); (· (repeat (first | (with_reducible exact List.mem_cons_self) | with_reducible apply List.mem_cons_of_mem))); (· (with_reducible first | exact flow_g0 .. | exact flow_g1 .. | exact flow_g2 ..)); (simp only [Act.put, List.setIfInBounds_toArray, List.set_cons_zero, List.set_cons_succ])) | go_big_quiet_step ((with_reducible first | exact AnsH.quiet (by assumption) | exact Ans.quietH (by assumption))))
      refine wpQuiet_nil ?_
      clear H
      intro _ H
      go_wp2_with (go_skip)
      have hS1 := HSB.out f
      refine wp_region_H_tail 10 H (by kernel_rfl) (by kernel_rfl) ?_
      simp only [List.take_succ_cons, List.take_zero, List.drop_succ_cons, List.drop_zero]
      repeat (first | go_big_quiet_skip | (first | ((with_reducible apply wpQ_loadCH); (· first | exact cell_party | exact cell_i64); (· rfl); (· rfl); (· (repeat (first | (with_reducible exact List.mem_cons_self) | with_reducible apply List.mem_cons_of_mem))); (· (with_reducible first | exact flow_g0 .. | exact flow_g1 .. | exact flow_g2 ..)); (simp only [Act.put, List.setIfInBounds_toArray, List.set_cons_zero, List.set_cons_succ])) | ((with_reducible apply wpQ_loadCH); (· exact cell_i64); (· rfl); (· rfl); (· (repeat (first | (with_reducible exact List.mem_cons_self) | with_reducible apply List.mem_cons_of_mem))); (· exact row17_get _ hf17); (simp only [Act.put, List.setIfInBounds_toArray, List.set_cons_zero, List.set_cons_succ]))) | go_big_quiet_step (fail))
      refine wpQuiet_nil ?_
      clear H
      intro _ H
      go_wp2_with (first | go_skip | ((with_reducible show wpList _ _ _ (_ :: _) _ _); (with_reducible apply wpl_storeIH); (· exact cell_i64); (· rfl); (· rfl); (· rfl); (· exact H); (· (repeat (first | (with_reducible exact List.mem_cons_self) | with_reducible apply List.mem_cons_of_mem))); (· (rw [row17_sz]; exact hf17)); (· exact row17_set _ hf17 _); (· (repeat (first | (with_reducible exact Repl.here) | with_reducible apply Repl.there))); (clear H; intro _ H); (simp only [Act.put, List.setIfInBounds_toArray, List.set_cons_zero, List.set_cons_succ])))
      go_wp2_with (go_skip)
      have hS2 : -1099511627776000 - 1099511627776 ≤ updN S f (S f - y) t ∧ updN S f (S f - y) t ≤ 1099511627776000 := by
        unfold updN
        have := HSB.out t
        split <;> omega
      refine wp_region_H_tail 10 H (by kernel_rfl) (by kernel_rfl) ?_
      simp only [List.take_succ_cons, List.take_zero, List.drop_succ_cons, List.drop_zero]
      repeat (first | go_big_quiet_skip | (first | ((with_reducible apply wpQ_loadCH); (· first | exact cell_party | exact cell_i64); (· rfl); (· rfl); (· (repeat (first | (with_reducible exact List.mem_cons_self) | with_reducible apply List.mem_cons_of_mem))); (· (with_reducible first | exact flow_g0 .. | exact flow_g1 .. | exact flow_g2 ..)); (simp only [Act.put, List.setIfInBounds_toArray, List.set_cons_zero, List.set_cons_succ])) | ((with_reducible apply wpQ_loadCH); (· exact cell_i64); (· rfl); (· rfl); (· (repeat (first | (with_reducible exact List.mem_cons_self) | with_reducible apply List.mem_cons_of_mem))); (· exact row17_get _ ht17); (simp only [Act.put, List.setIfInBounds_toArray, List.set_cons_zero, List.set_cons_succ]))) | go_big_quiet_step (fail))
      refine wpQuiet_nil ?_
      clear H
      intro _ H
      go_wp2_with (first | go_skip | ((with_reducible show wpList _ _ _ (_ :: _) _ _); (with_reducible apply wpl_storeIH); (· exact cell_i64); (· rfl); (· rfl); (· rfl); (· exact H); (· (repeat (first | (with_reducible exact List.mem_cons_self) | with_reducible apply List.mem_cons_of_mem))); (· (rw [row17_sz]; exact ht17)); (· exact row17_set _ ht17 _); (· (repeat (first | (with_reducible exact Repl.here) | with_reducible apply Repl.there))); (clear H; intro _ H); (simp only [Act.put, List.setIfInBounds_toArray, List.set_cons_zero, List.set_cons_succ])))
      go_wp2_with (go_skip)
      rw [upd_sg] at H
      refine ⟨⟨k + 1, _, by omega, by go_num, fun p => ?_, H.drop .here⟩, ?measure1⟩
      case measure1 => simp [intOf]; omega
      rw [HDT.out p, HS.out p]
    · obtain rfl : n = k := by omega
      have hS2 : ∀ p, S p = dl L p - dl (F.take 0) p := fun p => by rw [hS p, List.take_of_length_le (by rw [HL.out]; exact Nat.le_refl _)]; simp [dl]
      clear hS hlt hk
      go_wp2_with (go_skip)
      have H0 := H
      clear H
      go_loopw [8] (fun i wr => FaB W l L F ps m i wr) (fun i _ => m - (intOf i).toNat)
      case atStart => exact ⟨0, S, Nat.zero_le _, rfl, hS2, H0⟩
      case round =>
        clear hS2
        obtain ⟨k, S, hk, rfl, hS, H⟩ := hrel.out
        clear H0 hrel
        by_cases hlt : k < m
        · have hfk : F[k]? = some (F[k]'(by rw [HF.out]; exact hlt)) := List.getElem?_eq_getElem _
          have hrow := flwL_at F k (by rw [HF.out]; exact hlt)
          have hlen : k * 3 + 3 ≤ (flwL F).length := by rw [flwL_len, HF.out]; omega
          generalize F[k]'(by rw [HF.out]; exact hlt) = x at *
          have hrw : (((flwL F).drop (k * 3)).take 3).toArray = flow (x.f : Int) (x.t : Int) x.n := by rw [hrow]; rfl
          have Rw := HRF.out _ wr (fun x hx => List.mem_cons_of_mem _ hx) H
          obtain ⟨eb, eo, rfl, _⟩ := Rw.lt (by omega)
          have ho := HFo.out x (List.mem_of_getElem? hfk)
          have hdt := fun p => dl_take hfk p
          have hb := dl_bnd (F.take k) fun y hy => by have := HFo.out y (List.mem_of_mem_take hy); exact ⟨by omega, by omega⟩
          have hb2 := dl_bnd L fun y hy => by have := HLo.out y hy; exact ⟨by omega, by omega⟩
          rw [List.length_take, HF.out] at hb
          rw [HL.out] at hb2
          have hSb : ∀ p, -2199023255552000 ≤ S p ∧ S p ≤ 2199023255552000 := fun p => by have := hb p; have := hb2 p; rw [hS p]; omega
          obtain ⟨f, t, y⟩ := x
          simp only at ho hrw
          obtain ⟨ho1, ho2, ho3, ho4⟩ := ho
          have HDT := Lib.hid hdt
          have HS := Lib.hid hS
          have HSB := Lib.hid hSb
          have hf17 : f < 17 := by omega
          have ht17 : t < 17 := by omega
          have d1 : decide ((f : Int) > 16) = false := decide_eq_false (by omega)
          have d2 : decide ((t : Int) > 16) = false := decide_eq_false (by omega)
          clear hrow hfk hdt hS hb hb2 hSb
          go_wp2_with (first
            | go_skip
            | ((with_reducible show wpList _ _ _ (_ :: _) _ _); (with_reducible apply wpl_loadRdR row_flow); (· rfl); (· rfl); (· exact Rw); (· rfl); (· exact hlen); (· decide); (· exact hrw); (simp only [Act.put, List.setIfInBounds_toArray, List.set_cons_zero, List.set_cons_succ]))
            | ((with_reducible show wpList _ _ _ (_ :: _) _ _); (with_reducible apply wpl_allocRH row_flow); (· rfl); (· exact H); (clear H; intro px _ H); (simp only [Act.put, List.setIfInBounds_toArray, List.set_cons_zero, List.set_cons_succ]))
            | ((with_reducible show wpList _ _ _ (_ :: _) _ _); (with_reducible apply wpl_storeRH row_flow); (· rfl); (· rfl); (· rfl); (· with_reducible exact flow_cells ..); (· exact H); (· (repeat (first | (with_reducible exact List.mem_cons_self) | with_reducible apply List.mem_cons_of_mem))); (· (simp only [flow_sz, Nat.reduceAdd, Nat.reduceLeDiff, Nat.le_refl]; done)); (· with_reducible exact flow_splice ..); (· (repeat (first | (with_reducible exact Repl.here) | with_reducible apply Repl.there))); (clear H; intro _ H); (simp only [Act.put, List.setIfInBounds_toArray, List.set_cons_zero, List.set_cons_succ]))
            | ((with_reducible show wpList _ _ _ (_ :: _) _ _); (with_reducible apply wpl_loadCH); (· first | exact cell_party | exact cell_i64); (· rfl); (· rfl); (· exact H); (· (repeat (first | (with_reducible exact List.mem_cons_self) | with_reducible apply List.mem_cons_of_mem))); (· (with_reducible first | exact flow_g0 .. | exact flow_g1 .. | exact flow_g2 ..)); (simp only [Act.put, List.setIfInBounds_toArray, List.set_cons_zero, List.set_cons_succ])))
          have hS1 := HSB.out f
          refine wp_region_H_tail 10 H (by kernel_rfl) (by kernel_rfl) ?_
          simp only [List.take_succ_cons, List.take_zero, List.drop_succ_cons, List.drop_zero]
          repeat (first | go_big_quiet_skip | (first | ((with_reducible apply wpQ_loadCH); (· first | exact cell_party | exact cell_i64); (· rfl); (· rfl); (· (repeat (first | (with_reducible exact List.mem_cons_self) | with_reducible apply List.mem_cons_of_mem))); (· (with_reducible first | exact flow_g0 .. | exact flow_g1 .. | exact flow_g2 ..)); (simp only [Act.put, List.setIfInBounds_toArray, List.set_cons_zero, List.set_cons_succ])) | ((with_reducible apply wpQ_loadCH); (· exact cell_i64); (· rfl); (· rfl); (· (repeat (first | (with_reducible exact List.mem_cons_self) | with_reducible apply List.mem_cons_of_mem))); (· exact row17_get _ hf17); (simp only [Act.put, List.setIfInBounds_toArray, List.set_cons_zero, List.set_cons_succ]))) | go_big_quiet_step (fail))
          refine wpQuiet_nil ?_
          clear H
          intro _ H
          go_wp2_with (first | go_skip | ((with_reducible show wpList _ _ _ (_ :: _) _ _); (with_reducible apply wpl_storeIH); (· exact cell_i64); (· rfl); (· rfl); (· rfl); (· exact H); (· (repeat (first | (with_reducible exact List.mem_cons_self) | with_reducible apply List.mem_cons_of_mem))); (· (rw [row17_sz]; exact hf17)); (· exact row17_set _ hf17 _); (· (repeat (first | (with_reducible exact Repl.here) | with_reducible apply Repl.there))); (clear H; intro _ H); (simp only [Act.put, List.setIfInBounds_toArray, List.set_cons_zero, List.set_cons_succ])))
          go_wp2_with (go_skip)
          have hS2 : -2199023255552000 ≤ updN S f (S f + y) t ∧ updN S f (S f + y) t ≤ 2199023255552000 + 1099511627776 := by
            unfold updN
            have := HSB.out t
            split <;> omega
          refine wp_region_H_tail 10 H (by kernel_rfl) (by kernel_rfl) ?_
          simp only [List.take_succ_cons, List.take_zero, List.drop_succ_cons, List.drop_zero]
          repeat (first | go_big_quiet_skip | (first | ((with_reducible apply wpQ_loadCH); (· first | exact cell_party | exact cell_i64); (· rfl); (· rfl); (· (repeat (first | (with_reducible exact List.mem_cons_self) | with_reducible apply List.mem_cons_of_mem))); (· (with_reducible first | exact flow_g0 .. | exact flow_g1 .. | exact flow_g2 ..)); (simp only [Act.put, List.setIfInBounds_toArray, List.set_cons_zero, List.set_cons_succ])) | ((with_reducible apply wpQ_loadCH); (· exact cell_i64); (· rfl); (· rfl); (· (repeat (first | (with_reducible exact List.mem_cons_self) | with_reducible apply List.mem_cons_of_mem))); (· exact row17_get _ ht17); (simp only [Act.put, List.setIfInBounds_toArray, List.set_cons_zero, List.set_cons_succ]))) | go_big_quiet_step (fail))
          refine wpQuiet_nil ?_
          clear H
          intro _ H
          go_wp2_with (first | go_skip | ((with_reducible show wpList _ _ _ (_ :: _) _ _); (with_reducible apply wpl_storeIH); (· exact cell_i64); (· rfl); (· rfl); (· rfl); (· exact H); (· (repeat (first | (with_reducible exact List.mem_cons_self) | with_reducible apply List.mem_cons_of_mem))); (· (rw [row17_sz]; exact ht17)); (· exact row17_set _ ht17 _); (· (repeat (first | (with_reducible exact Repl.here) | with_reducible apply Repl.there))); (clear H; intro _ H); (simp only [Act.put, List.setIfInBounds_toArray, List.set_cons_zero, List.set_cons_succ])))
          go_wp2_with (go_skip)
          rw [upd_sg'] at H
          refine ⟨⟨k + 1, _, by omega, by go_num, fun p => ?_, H.drop .here⟩, ?measure2⟩
          case measure2 => simp [intOf]; omega
          rw [HDT.out p, HS.out p]
          omega
        · obtain rfl : m = k := by omega
          have hS0 : S = fun _ => 0 := funext fun p => by rw [hS p, List.take_of_length_le (by rw [HF.out]; exact Nat.le_refl _), HD.out p]; omega
          subst hS0
          clear hS
          go_wp2_with (first | go_skip | ((with_reducible show wpList _ _ _ (_ :: _) _ _); (with_reducible apply wpl_loadRH row_17f8); (· rfl); (· rfl); (· exact H); (· (repeat (first | (with_reducible exact List.mem_cons_self) | with_reducible apply List.mem_cons_of_mem))); (· (simp only [row17_sz, Nat.reduceAdd, Nat.reduceLeDiff, Nat.le_refl]; done)); (· with_reducible exact row17_all8 _); (simp only [Act.put, List.setIfInBounds_toArray, List.set_cons_zero, List.set_cons_succ])) | ((with_reducible show wpList _ _ _ (_ :: _) _ _); (with_reducible apply wpl_eq17); (· rfl); (· rfl); (· rfl); (simp only [Act.put, List.setIfInBounds_toArray, List.set_cons_zero, List.set_cons_succ])))
          go_ret
          exact ⟨rfl, H.tail⟩
end
end Go.Proofs.Ytbmmdfjabkpoeaa
