/- Part 8 of what several laws stand on: Fair8b, SameF, BsAny, Lives08, Open, Shape, Leaf, Open05, Ring8p. -/
import Derived.Test.YtbmmdfjabkpoeaaRndRPart7
import Derived.Laws.StructEq
import Derived.ProofKit
import Derived.OpenShut
import Derived.ChangeOld
import Derived.Test.YtbmmdfjabkpoeaaProg
import Derived.Lib.SmallJoins
/- countinghouselaw08.Fair: does each stand as in the other list, and is no debt more? -/
namespace Go.Proofs.Ytbmmdfjabkpoeaa
open Go.RowKit
set_option linter.unusedSimpArgs false
set_option linter.unusedVariables false
theorem row_17f8 : RowTy 69 17 (row17 fun _ => 0) := ⟨⟨_, Try.underlying69, rfl⟩, by kernel_rfl, by kernel_rfl⟩
theorem row17_all8 (c : Nat → Int) : (row17 c).extract 0 (0 + 17) = row17 c := by rw [Nat.zero_add]; exact Array.extract_eq_self_of_le (by rw [row17_sz]; exact Nat.le_refl _)
theorem eq17_run (w : World) : (binOp .eql 69 (.agg (row17 fun _ => 0)) (.agg (row17 fun _ => 0))).run Try.prog w = .ok (.bool true) w := by kernel_rfl
theorem dl_app (L : List Flw) (x : Flw) (p : Nat) : dl (L ++ [x]) p = dl L p + sg x p * x.n := by unfold dl; rw [List.map_append, List.sum_append]; simp
theorem dl_take {L : List Flw} {k : Nat} {x : Flw} (h : L[k]? = some x) (p : Nat) : dl (L.take (k + 1)) p = dl (L.take k) p + sg x p * x.n := by
  rw [List.take_add_one, h, Option.toList_some]
  exact dl_app _ _ _
theorem upd_sg (S : Nat → Int) (f t : Nat) (y : Int) : updN (updN S f (S f - y)) t (updN S f (S f - y) t + y) = fun p => S p + sg ⟨f, t, y⟩ p * y := by
  funext p
  unfold updN sg
  by_cases h1 : p = t
  · subst h1
    by_cases h2 : p = f
    · subst h2; simp
    · have h3 : ¬ f = p := fun e => h2 e.symm
      simp [h2, h3]
  · have h3 : ¬ t = p := fun e => h1 e.symm
    by_cases h2 : p = f
    · subst h2; simp [h1, h3]; omega
    · have h4 : ¬ f = p := fun e => h2 e.symm
      simp [h1, h2, h3, h4]
theorem upd_sg' (S : Nat → Int) (f t : Nat) (y : Int) : updN (updN S f (S f + y)) t (updN S f (S f + y) t - y) = fun p => S p - sg ⟨f, t, y⟩ p * y := by
  funext p
  unfold updN sg
  by_cases h1 : p = t
  · subst h1
    by_cases h2 : p = f
    · subst h2; simp
    · have h3 : ¬ f = p := fun e => h2 e.symm
      simp [h2, h3]
  · have h3 : ¬ t = p := fun e => h1 e.symm
    by_cases h2 : p = f
    · subst h2; simp [h1, h3]
    · have h4 : ¬ f = p := fun e => h2 e.symm
      simp [h1, h2, h3, h4]
theorem dl_bnd : ∀ (L : List Flw), (∀ x ∈ L, 0 ≤ x.n ∧ x.n ≤ 1099511627776) → ∀ p, -(1099511627776 * (L.length : Int)) ≤ dl L p ∧ dl L p ≤ 1099511627776 * (L.length : Int)
  | [], _, p => by simp [dl]
  | x :: L, h, p => by
    have h1 := h x List.mem_cons_self
    have h2 := dl_bnd L (fun y hy => h y (List.mem_cons_of_mem _ hy)) p
    have h3 : -x.n ≤ sg x p * x.n ∧ sg x p * x.n ≤ x.n := by
      unfold sg
      split <;> split <;> simp <;> omega
    unfold dl at *
    rw [List.map_cons, List.sum_cons, List.length_cons]
    omega
section
variable {W w : World} {l : List Thing} {ops : Array Oper} {rest : List Oper} {a : Act} {Q : Exit → Act → World → Prop} {dst : Option Tmp} {ty : TypeId} {pos : String} {after : Array Edge} {guard : Option (Nat × Bool)} {p q : Operand}
theorem wpl_eq17 (hw : Region.wanted ⟨dst, .binOp .eql 69 p q 69, ty, pos, after, guard⟩ (yielded ops a.tmps) = true) (hp : a.eval p = .agg (row17 fun _ => 0)) (hq : a.eval q = .agg (row17 fun _ => 0))
    (h : wpList Try.prog ops Q rest (a.put dst (.bool true)) w) : wpList Try.prog ops Q (⟨dst, .binOp .eql 69 p q 69, ty, pos, after, guard⟩ :: rest) a w := by
  have hg : (Try.prog.eqGuardType Try.prog.depth 69) = false := by kernel_rfl
  refine wpl_pure hw _ (fun w => ?_) h
  unfold execOp
  simp only [hp, hq, Sem.run_bind, eq17_run]
  simp [eqGuard, hg, eq17_run]
end
structure FaA (W : World) (l : List Thing) (L : List Flw) (ps n : Nat) (i : Value) (wr : World) : Prop where
  out : ∃ (k : Nat) (S : Nat → Int), k ≤ n ∧ i = .int .i64 (k : Int) ∧ (∀ p, S p = dl (L.take k) p) ∧ Heap W (Cel ps (row17 S) 69 :: l) wr
structure FaB (W : World) (l : List Thing) (L F : List Flw) (ps n : Nat) (i : Value) (wr : World) : Prop where
  out : ∃ (k : Nat) (S : Nat → Int), k ≤ n ∧ i = .int .i64 (k : Int) ∧ (∀ p, S p = dl L p - dl (F.take k) p) ∧ Heap W (Cel ps (row17 S) 69 :: l) wr
section
variable {W w : World} {l : List Thing}
set_option maxRecDepth 100000
set_option maxHeartbeats 8000000
theorem fair8_H (a b : Option Addr) (n m c d : Nat) (L F : List Flw) (hl : L.length = n) (hf : F.length = m) (hn : n ≤ 1000) (hm : m ≤ 1000) (hL : ∀ y ∈ L, y.f ≤ 16 ∧ y.t ≤ 16 ∧ 1 ≤ y.n ∧ y.n ≤ 1099511627776 ∧ y.n ≤ ofF F y.f y.t) (hF : ∀ y ∈ F, y.f ≤ 16 ∧ y.t ≤ 16 ∧ 0 ≤ y.n ∧ y.n ≤ 1099511627776) (hD : ∀ p, dl L p = dl F p)
    (RL : ∀ l' w', (∀ x ∈ l, x ∈ l') → Heap W l' w' → Rd w' a (flwL L)) (RF : ∀ l' w', (∀ x ∈ l, x ∈ l') → Heap W l' w' → Rd w' b (flwL F)) :
    AnsH W l 17 #[.slice a n c, .slice b m d] (.bool true) := by
  intro w H
  have HL := Lib.hid hl
  have HF := Lib.hid hf
  have HLo := Lib.hid hL
  have HFo := Lib.hid hF
  have HD := Lib.hid hD
  have HRL := Lib.hid RL
  have HRF := Lib.hid RF
  clear hl hf hL hF hD RL RF
  go_enter Try.func17, Try.ntmps17
  go_wp2_with (first | go_skip | ((with_reducible show wpList _ _ _ (_ :: _) _ _); (with_reducible apply wpl_allocRH row_17f8); (· rfl); (· exact H); (clear H; intro ps _ H); (simp only [Act.put, List.setIfInBounds_toArray, List.set_cons_zero, List.set_cons_succ])))
  have H0 := H
  clear H
  go_loopw [6] (fun i wr => FaA W l L ps n i wr) (fun i _ => n - (intOf i).toNat)
  case atStart => exact ⟨0, _, Nat.zero_le _, rfl, fun p => rfl, H0⟩
  case round =>
    obtain ⟨k, S, hk, rfl, hS, H⟩ := hrel.out
    clear H0 hrel
    by_cases hlt : k < n
    · have hfk : L[k]? = some (L[k]'(by rw [HL.out]; exact hlt)) := List.getElem?_eq_getElem _
      have hrow := flwL_at L k (by rw [HL.out]; exact hlt)
      have hlen : k * 3 + 3 ≤ (flwL L).length := by rw [flwL_len, HL.out]; omega
      generalize L[k]'(by rw [HL.out]; exact hlt) = x at *
      have hrw : (((flwL L).drop (k * 3)).take 3).toArray = flow (x.f : Int) (x.t : Int) x.n := by rw [hrow]; rfl
      have Rw := HRL.out _ wr (fun x hx => List.mem_cons_of_mem _ hx) H
      obtain ⟨eb, eo, rfl, _⟩ := Rw.lt (by omega)
      have ho := HLo.out x (List.mem_of_getElem? hfk)
      have hdt := fun p => dl_take hfk p
      have hb := dl_bnd (L.take k) fun y hy => by have := HLo.out y (List.mem_of_mem_take hy); exact ⟨by omega, by omega⟩
      rw [List.length_take, HL.out] at hb
      have hSb : ∀ p, -1099511627776000 ≤ S p ∧ S p ≤ 1099511627776000 := fun p => by have := hb p; rw [hS p]; omega
      obtain ⟨f, t, y⟩ := x
      simp only at ho hrw
      obtain ⟨ho1, ho2, ho3, ho4, ho5⟩ := ho
      have HOF := Lib.hid ho5
      have HDT := Lib.hid hdt
      have HS := Lib.hid hS
      have HSB := Lib.hid hSb
      have hf17 : f < 17 := by omega
      have ht17 : t < 17 := by omega
      clear hrow hfk hdt hS hb hSb ho5
      go_wp2_with (first
        | go_skip
        | ((with_reducible show wpList _ _ _ (_ :: _) _ _); (with_reducible apply wpl_loadRdR row_flow); (· rfl); (· rfl); (· exact Rw); (· rfl); (· exact hlen); (· decide); (· exact hrw); (simp only [Act.put, List.setIfInBounds_toArray, List.set_cons_zero, List.set_cons_succ]))
        | ((with_reducible show wpList _ _ _ (_ :: _) _ _); (with_reducible apply wpl_allocRH row_flow); (· rfl); (· exact H); (clear H; intro px _ H); (simp only [Act.put, List.setIfInBounds_toArray, List.set_cons_zero, List.set_cons_succ]))
        | ((with_reducible show wpList _ _ _ (_ :: _) _ _); (with_reducible apply wpl_storeRH row_flow); (· rfl); (· rfl); (· rfl); (· with_reducible exact flow_cells ..); (· exact H); (· (repeat (first | (with_reducible exact List.mem_cons_self) | with_reducible apply List.mem_cons_of_mem))); (· (simp only [flow_sz, Nat.reduceAdd, Nat.reduceLeDiff, Nat.le_refl]; done)); (· with_reducible exact flow_splice ..); (· (repeat (first | (with_reducible exact Repl.here) | with_reducible apply Repl.there))); (clear H; intro _ H); (simp only [Act.put, List.setIfInBounds_toArray, List.set_cons_zero, List.set_cons_succ]))
        | ((with_reducible show wpList _ _ _ (_ :: _) _ _); (with_reducible apply wpl_loadCH); (· first | exact cell_party | exact cell_i64); (· rfl); (· rfl); (· exact H); (· (repeat (first | (with_reducible exact List.mem_cons_self) | with_reducible apply List.mem_cons_of_mem))); (· (with_reducible first | exact flow_g0 .. | exact flow_g1 .. | exact flow_g2 ..)); (simp only [Act.put, List.setIfInBounds_toArray, List.set_cons_zero, List.set_cons_succ])))
      have A := of8_H (W := W) (l := Cel px (flow (f : Int) (t : Int) y) 39 :: Cel ps (row17 S) 69 :: l) b m d F f t HF.out (by omega) (fun w' h => HRF.out _ w' (fun x hx => List.mem_cons_of_mem _ (List.mem_cons_of_mem _ hx)) h)
      obtain ⟨z, hz⟩ : ∃ z, ofF F f t = z := ⟨_, rfl⟩
      have hzy : y ≤ z := by rw [← hz]; exact HOF.out
      rw [hz] at A
      clear hz
      have d1 : decide ((f : Int) > 16) = false := decide_eq_false (by omega)
      have g1 : decide (16 < f) = false := decide_eq_false (by omega)
      have d2 : decide ((t : Int) > 16) = false := decide_eq_false (by omega)
      have g2 : decide (16 < t) = false := decide_eq_false (by omega)
      have d3 : decide (y < 1) = false := decide_eq_false (by omega)
      have d4 : decide (y > z) = false := decide_eq_false (by omega)
      have d5 : decide (z < y) = false := decide_eq_false (by omega)
      refine wp_region_H H (by kernel_rfl) (by kernel_rfl) ?_
      repeat (first | go_big_quiet_skip | ((with_reducible apply wpQ_loadCH); (· first | exact cell_party | exact cell_i64); (· rfl); (· rfl); (· (repeat (first | (with_reducible exact List.mem_cons_self) | with_reducible apply List.mem_cons_of_mem))); (· (with_reducible first | exact flow_g0 .. | exact flow_g1 .. | exact flow_g2 ..)); (simp only [Act.put, List.setIfInBounds_toArray, List.set_cons_zero, List.set_cons_succ])) | go_big_quiet_step ((with_reducible first | exact AnsH.quiet (by assumption) | exact Ans.quietH (by assumption))))
      refine wpQuiet_nil ?_
      clear H
      intro _ H
      go_wp2_with (go_skip)
      have hS1 := HSB.out f
      refine wp_region_H_tail 10 H (by kernel_rfl) (by kernel_rfl) ?_
      simp only [List.take_succ_cons, List.take_zero, List.drop_succ_cons, List.drop_zero]
      repeat (first | go_big_quiet_skip | (first | ((with_reducible apply wpQ_loadCH); (· first | exact cell_party | exact cell_i64); (· rfl); (· rfl); (· (repeat (first | (with_reducible exact List.mem_cons_self) | with_reducible apply List.mem_cons_of_mem))); (· (with_reducible first | exact flow_g0 .. | exact flow_g1 .. | exact flow_g2 ..)); (simp only [Act.put, List.setIfInBounds_toArray, List.set_cons_zero, List.set_cons_succ])) | ((with_reducible apply wpQ_loadCH); (· exact cell_i64); (· rfl); (· rfl); (· (repeat (first | (with_reducible exact List.mem_cons_self) | with_reducible apply List.mem_cons_of_mem))); (· exact row17_get _ hf17); (simp only [Act.put, List.setIfInBounds_toArray, List.set_cons_zero, List.set_cons_succ]))) | go_big_quiet_step (fail))
      refine wpQuiet_nil ?_
      clear H
      intro _ H
      go_wp2_with (first | go_skip | ((with_reducible show wpList _ _ _ (_ :: _) _ _); (with_reducible apply wpl_storeIH); (· exact cell_i64); (· rfl); (· rfl); (· rfl); (· exact H); (· (repeat (first | (with_reducible exact List.mem_cons_self) | with_reducible apply List.mem_cons_of_mem))); (· (rw [row17_sz]; exact hf17)); (· exact row17_set _ hf17 _); (· (repeat (first | (with_reducible exact Repl.here) | with_reducible apply Repl.there))); (clear H; intro _ H); (simp only [Act.put, List.setIfInBounds_toArray, List.set_cons_zero, List.set_cons_succ])))
      go_wp2_with (go_skip)
      have hS2 : -1099511627776000 - 1099511627776 ≤ updN S f (S f - y) t ∧ updN S f (S f - y) t ≤ 1099511627776000 := by
        unfold updN
        have := HSB.out t
        split <;> omega
      refine wp_region_H_tail 10 H (by kernel_rfl) (by kernel_rfl) ?_
      simp only [List.take_succ_cons, List.take_zero, List.drop_succ_cons, List.drop_zero]
      repeat (first | go_big_quiet_skip | (first | ((with_reducible apply wpQ_loadCH); (· first | exact cell_party | exact cell_i64); (· rfl); (· rfl); (· (repeat (first | (with_reducible exact List.mem_cons_self) | with_reducible apply List.mem_cons_of_mem))); (· (with_reducible first | exact flow_g0 .. | exact flow_g1 .. | exact flow_g2 ..)); (simp only [Act.put, List.setIfInBounds_toArray, List.set_cons_zero, List.set_cons_succ])) | ((with_reducible apply wpQ_loadCH); (· exact cell_i64); (· rfl); (· rfl); (· (repeat (first | (with_reducible exact List.mem_cons_self) | with_reducible apply List.mem_cons_of_mem))); (· exact row17_get _ ht17); (simp only [Act.put, List.setIfInBounds_toArray, List.set_cons_zero, List.set_cons_succ]))) | go_big_quiet_step (fail))
      refine wpQuiet_nil ?_
      clear H
      intro _ H
      go_wp2_with (first | go_skip | ((with_reducible show wpList _ _ _ (_ :: _) _ _); (with_reducible apply wpl_storeIH); (· exact cell_i64); (· rfl); (· rfl); (· rfl); (· exact H); (· (repeat (first | (with_reducible exact List.mem_cons_self) | with_reducible apply List.mem_cons_of_mem))); (· (rw [row17_sz]; exact ht17)); (· exact row17_set _ ht17 _); (· (repeat (first | (with_reducible exact Repl.here) | with_reducible apply Repl.there))); (clear H; intro _ H); (simp only [Act.put, List.setIfInBounds_toArray, List.set_cons_zero, List.set_cons_succ])))
      go_wp2_with (go_skip)
      rw [upd_sg] at H
      refine ⟨⟨k + 1, _, by omega, by go_num, fun p => ?_, H.drop .here⟩, ?measure1⟩
      case measure1 => simp [intOf]; omega
      rw [HDT.out p, HS.out p]
    · obtain rfl : n = k := by omega
      have hS2 : ∀ p, S p = dl L p - dl (F.take 0) p := fun p => by rw [hS p, List.take_of_length_le (by rw [HL.out]; exact Nat.le_refl _)]; simp [dl]
      clear hS hlt hk
      go_wp2_with (go_skip)
      have H0 := H
      clear H
      go_loopw [8] (fun i wr => FaB W l L F ps m i wr) (fun i _ => m - (intOf i).toNat)
      case atStart => exact ⟨0, S, Nat.zero_le _, rfl, hS2, H0⟩
      case round =>
        clear hS2
        obtain ⟨k, S, hk, rfl, hS, H⟩ := hrel.out
        clear H0 hrel
        by_cases hlt : k < m
        · have hfk : F[k]? = some (F[k]'(by rw [HF.out]; exact hlt)) := List.getElem?_eq_getElem _
          have hrow := flwL_at F k (by rw [HF.out]; exact hlt)
          have hlen : k * 3 + 3 ≤ (flwL F).length := by rw [flwL_len, HF.out]; omega
          generalize F[k]'(by rw [HF.out]; exact hlt) = x at *
          have hrw : (((flwL F).drop (k * 3)).take 3).toArray = flow (x.f : Int) (x.t : Int) x.n := by rw [hrow]; rfl
          have Rw := HRF.out _ wr (fun x hx => List.mem_cons_of_mem _ hx) H
          obtain ⟨eb, eo, rfl, _⟩ := Rw.lt (by omega)
          have ho := HFo.out x (List.mem_of_getElem? hfk)
          have hdt := fun p => dl_take hfk p
          have hb := dl_bnd (F.take k) fun y hy => by have := HFo.out y (List.mem_of_mem_take hy); exact ⟨by omega, by omega⟩
          have hb2 := dl_bnd L fun y hy => by have := HLo.out y hy; exact ⟨by omega, by omega⟩
          rw [List.length_take, HF.out] at hb
          rw [HL.out] at hb2
          have hSb : ∀ p, -2199023255552000 ≤ S p ∧ S p ≤ 2199023255552000 := fun p => by have := hb p; have := hb2 p; rw [hS p]; omega
          obtain ⟨f, t, y⟩ := x
          simp only at ho hrw
          obtain ⟨ho1, ho2, ho3, ho4⟩ := ho
          have HDT := Lib.hid hdt
          have HS := Lib.hid hS
          have HSB := Lib.hid hSb
          have hf17 : f < 17 := by omega
          have ht17 : t < 17 := by omega
          have d1 : decide ((f : Int) > 16) = false := decide_eq_false (by omega)
          have d2 : decide ((t : Int) > 16) = false := decide_eq_false (by omega)
          clear hrow hfk hdt hS hb hb2 hSb
          go_wp2_with (first
            | go_skip
            | ((with_reducible show wpList _ _ _ (_ :: _) _ _); (with_reducible apply wpl_loadRdR row_flow); (· rfl); (· rfl); (· exact Rw); (· rfl); (· exact hlen); (· decide); (· exact hrw); (simp only [Act.put, List.setIfInBounds_toArray, List.set_cons_zero, List.set_cons_succ]))
            | ((with_reducible show wpList _ _ _ (_ :: _) _ _); (with_reducible apply wpl_allocRH row_flow); (· rfl); (· exact H); (clear H; intro px _ H); (simp only [Act.put, List.setIfInBounds_toArray, List.set_cons_zero, List.set_cons_succ]))
            | ((with_reducible show wpList _ _ _ (_ :: _) _ _); (with_reducible apply wpl_storeRH row_flow); (· rfl); (· rfl); (· rfl); (· with_reducible exact flow_cells ..); (· exact H); (· (repeat (first | (with_reducible exact List.mem_cons_self) | with_reducible apply List.mem_cons_of_mem))); (· (simp only [flow_sz, Nat.reduceAdd, Nat.reduceLeDiff, Nat.le_refl]; done)); (· with_reducible exact flow_splice ..); (· (repeat (first | (with_reducible exact Repl.here) | with_reducible apply Repl.there))); (clear H; intro _ H); (simp only [Act.put, List.setIfInBounds_toArray, List.set_cons_zero, List.set_cons_succ]))
            | ((with_reducible show wpList _ _ _ (_ :: _) _ _); (with_reducible apply wpl_loadCH); (· first | exact cell_party | exact cell_i64); (· rfl); (· rfl); (· exact H); (· (repeat (first | (with_reducible exact List.mem_cons_self) | with_reducible apply List.mem_cons_of_mem))); (· (with_reducible first | exact flow_g0 .. | exact flow_g1 .. | exact flow_g2 ..)); (simp only [Act.put, List.setIfInBounds_toArray, List.set_cons_zero, List.set_cons_succ])))
          have hS1 := HSB.out f
          refine wp_region_H_tail 10 H (by kernel_rfl) (by kernel_rfl) ?_
          simp only [List.take_succ_cons, List.take_zero, List.drop_succ_cons, List.drop_zero]
          repeat (first | go_big_quiet_skip | (first | ((with_reducible apply wpQ_loadCH); (· first | exact cell_party | exact cell_i64); (· rfl); (· rfl); (· (repeat (first | (with_reducible exact List.mem_cons_self) | with_reducible apply List.mem_cons_of_mem))); (· (with_reducible first | exact flow_g0 .. | exact flow_g1 .. | exact flow_g2 ..)); (simp only [Act.put, List.setIfInBounds_toArray, List.set_cons_zero, List.set_cons_succ])) | ((with_reducible apply wpQ_loadCH); (· exact cell_i64); (· rfl); (· rfl); (· (repeat (first | (with_reducible exact List.mem_cons_self) | with_reducible apply List.mem_cons_of_mem))); (· exact row17_get _ hf17); (simp only [Act.put, List.setIfInBounds_toArray, List.set_cons_zero, List.set_cons_succ]))) | go_big_quiet_step (fail))
          refine wpQuiet_nil ?_
          clear H
          intro _ H
          go_wp2_with (first | go_skip | ((with_reducible show wpList _ _ _ (_ :: _) _ _); (with_reducible apply wpl_storeIH); (· exact cell_i64); (· rfl); (· rfl); (· rfl); (· exact H); (· (repeat (first | (with_reducible exact List.mem_cons_self) | with_reducible apply List.mem_cons_of_mem))); (· (rw [row17_sz]; exact hf17)); (· exact row17_set _ hf17 _); (· (repeat (first | (with_reducible exact Repl.here) | with_reducible apply Repl.there))); (clear H; intro _ H); (simp only [Act.put, List.setIfInBounds_toArray, List.set_cons_zero, List.set_cons_succ])))
          go_wp2_with (go_skip)
          have hS2 : -2199023255552000 ≤ updN S f (S f + y) t ∧ updN S f (S f + y) t ≤ 2199023255552000 + 1099511627776 := by
            unfold updN
            have := HSB.out t
            split <;> omega
          refine wp_region_H_tail 10 H (by kernel_rfl) (by kernel_rfl) ?_
          simp only [List.take_succ_cons, List.take_zero, List.drop_succ_cons, List.drop_zero]
          repeat (first | go_big_quiet_skip | (first | ((with_reducible apply wpQ_loadCH); (· first | exact cell_party | exact cell_i64); (· rfl); (· rfl); (· (repeat (first | (with_reducible exact List.mem_cons_self) | with_reducible apply List.mem_cons_of_mem))); (· (with_reducible first | exact flow_g0 .. | exact flow_g1 .. | exact flow_g2 ..)); (simp only [Act.put, List.setIfInBounds_toArray, List.set_cons_zero, List.set_cons_succ])) | ((with_reducible apply wpQ_loadCH); (· exact cell_i64); (· rfl); (· rfl); (· (repeat (first | (with_reducible exact List.mem_cons_self) | with_reducible apply List.mem_cons_of_mem))); (· exact row17_get _ ht17); (simp only [Act.put, List.setIfInBounds_toArray, List.set_cons_zero, List.set_cons_succ]))) | go_big_quiet_step (fail))
          refine wpQuiet_nil ?_
          clear H
          intro _ H
          go_wp2_with (first | go_skip | ((with_reducible show wpList _ _ _ (_ :: _) _ _); (with_reducible apply wpl_storeIH); (· exact cell_i64); (· rfl); (· rfl); (· rfl); (· exact H); (· (repeat (first | (with_reducible exact List.mem_cons_self) | with_reducible apply List.mem_cons_of_mem))); (· (rw [row17_sz]; exact ht17)); (· exact row17_set _ ht17 _); (· (repeat (first | (with_reducible exact Repl.here) | with_reducible apply Repl.there))); (clear H; intro _ H); (simp only [Act.put, List.setIfInBounds_toArray, List.set_cons_zero, List.set_cons_succ])))
          go_wp2_with (go_skip)
          rw [upd_sg'] at H
          refine ⟨⟨k + 1, _, by omega, by go_num, fun p => ?_, H.drop .here⟩, ?measure2⟩
          case measure2 => simp [intOf]; omega
          rw [HDT.out p, HS.out p]
          omega
        · obtain rfl : m = k := by omega
          have hS0 : S = fun _ => 0 := funext fun p => by rw [hS p, List.take_of_length_le (by rw [HF.out]; exact Nat.le_refl _), HD.out p]; omega
          subst hS0
          clear hS
          go_wp2_with (first | go_skip | ((with_reducible show wpList _ _ _ (_ :: _) _ _); (with_reducible apply wpl_loadRH row_17f8); (· rfl); (· rfl); (· exact H); (· (repeat (first | (with_reducible exact List.mem_cons_self) | with_reducible apply List.mem_cons_of_mem))); (· (simp only [row17_sz, Nat.reduceAdd, Nat.reduceLeDiff, Nat.le_refl]; done)); (· with_reducible exact row17_all8 _); (simp only [Act.put, List.setIfInBounds_toArray, List.set_cons_zero, List.set_cons_succ])) | ((with_reducible show wpList _ _ _ (_ :: _) _ _); (with_reducible apply wpl_eq17); (· rfl); (· rfl); (· rfl); (simp only [Act.put, List.setIfInBounds_toArray, List.set_cons_zero, List.set_cons_succ])))
          go_ret
          exact ⟨rfl, H.tail⟩
end
end Go.Proofs.Ytbmmdfjabkpoeaa

/- countinghouselaw01's SameFlows. -/
namespace Go.Proofs.Ytbmmdfjabkpoeaa
open Go.RowKit
set_option linter.unusedSimpArgs false
set_option linter.unusedVariables false
instance : DecidableEq Flw := fun x y => if h : x.f = y.f ∧ x.t = y.t ∧ x.n = y.n then .isTrue (by cases x; cases y; simp at h; obtain ⟨rfl, rfl, rfl⟩ := h; rfl) else .isFalse (fun e => by subst e; exact h ⟨rfl, rfl, rfl⟩)
def flowSame (a b n x y z : Int) : Bool := decide (a = x ∧ b = y ∧ n = z)
theorem eqF_run (d : Nat) (a b n x y z : Int) (w : World) : (Op.equalIn (d + 2) 39 (.agg (flow a b n)) (.agg (flow x y z))).run Try.prog w = .ok (flowSame a b n x y z) w := by
  unfold flow
  rw [run_equalIn_struct w (d + 1) 39 _ _ (by kernel_rfl) (by kernel_rfl)]
  have hu := Try.underlying37
  have hv := Try.underlying2
  by_cases h1 : a = x <;> by_cases h2 : b = y <;> by_cases h3 : n = z
  all_goals simp [flowSame, go_sem, Try.underlying39, hu, hv, h1, h2, h3]
theorem neqF_run (a b n x y z : Int) (w : World) : (binOp .neq 39 (.agg (flow a b n)) (.agg (flow x y z))).run Try.prog w = .ok (.bool (!flowSame a b n x y z)) w := by
  have h : (Op.equal 39 (.agg (flow a b n)) (.agg (flow x y z))).run Try.prog w = .ok (flowSame a b n x y z) w := eqF_run 9998 a b n x y z w
  simp only [binOp]
  simp [Sem.run_bind, h]
section
variable {W w : World} {l : List Thing} {ops : Array Oper} {rest : List Oper} {a : Act}
theorem wpQ_neqF {dst : Option Tmp} {ty : TypeId} {pos : String} {after : Array Edge} {guard : Option (Nat × Bool)} {p q : Operand} {a0 b0 n0 x y n : Int} {K : Act → Prop} {H : Heap W l w} (hw : Region.wanted ⟨dst, .binOp .neq 39 p q 39, ty, pos, after, guard⟩ (yielded ops a.tmps) = true) (hp : a.eval p = .agg (flow a0 b0 n0)) (hq : a.eval q = .agg (flow x y n))
    (h : wpQuiet Try.prog ops (fun w' => ∃ d, w' = H.any d) K rest (a.put dst (.bool (!flowSame a0 b0 n0 x y n)))) : wpQuiet Try.prog ops (fun w' => ∃ d, w' = H.any d) K (⟨dst, .binOp .neq 39 p q 39, ty, pos, after, guard⟩ :: rest) a := by
  have hg : (Try.prog.eqGuardType Try.prog.depth 39) = false := by kernel_rfl
  refine BigFrame.wpQuiet_want hw fun K hK => ⟨_, ?_, hK _ h⟩
  rintro _ ⟨d, rfl⟩
  unfold Oper.quietAt execOp
  simp only [hp, hq, Sem.run_bind, neqF_run]
  simp [eqGuard, hg, neqF_run]
  exact ⟨rfl, rfl⟩
end
structure SameFL (W : World) (l : List Thing) (A B : List Flw) (n : Nat) (vi : Value) (wr : World) : Prop where
  out : ∃ k : Nat, k ≤ n ∧ vi = .int .i64 (k : Int) ∧ A.take k = B.take k ∧ Heap W l wr
section
variable {W w : World} {l : List Thing}
set_option maxRecDepth 100000
set_option maxHeartbeats 2000000
theorem sameF_no {A B : List Flw} (a b : Option Addr) (n m c d : Nat) (hA : A.length = n) (hB : B.length = m) (hn : n ≤ 1000000) (hm : m ≤ 1000000) (hne : n ≠ m) : AnsH W l 27 #[.slice a n c, .slice b m d] (.bool false) := by
  intro w H
  have e1 : ((n : Int) != (m : Int)) = true := by simp; omega
  have e2 : ((n : Int) == (m : Int)) = false := by simp; omega
  go_enter Try.func27, Try.ntmps27
  go_wp2_with (go_skip)
  go_ret
  exact ⟨rfl, H⟩
theorem sameF_P {A B : List Flw} (a b : Option Addr) (n c d : Nat) (hA : A.length = n) (hB : B.length = n) (hn : n ≤ 1000000) (RA : ∀ w', Heap W l w' → Rd w' a (flwL A)) (RB : ∀ w', Heap W l w' → Rd w' b (flwL B)) :
    AnsH W l 27 #[.slice a n c, .slice b n d] (.bool (decide (A = B))) := by
  intro w H
  have HA := Lib.hid hA
  have HB := Lib.hid hB
  have HRA := Lib.hid RA
  have HRB := Lib.hid RB
  clear hA hB RA RB
  generalize hres : decide (A = B) = res
  have HRES := Lib.hid hres
  clear hres
  go_enter Try.func27, Try.ntmps27
  go_wp2_with (go_skip)
  have H0 := H
  clear H
  go_loopw [5] (fun vi wr => SameFL W l A B n vi wr) (fun vi _ => n - (intOf vi).toNat)
  case atStart => exact ⟨0, Nat.zero_le _, rfl, rfl, H0⟩
  case round =>
    obtain ⟨k, hk, rfl, ht, H'⟩ := hrel.out
    clear H0 hrel
    have H := H'
    clear H'
    by_cases hlt : k < n
    · have hkA : k < A.length := by rw [HA.out]; exact hlt
      have hkB : k < B.length := by rw [HB.out]; exact hlt
      have hx : A[k]? = some A[k] := List.getElem?_eq_getElem hkA
      have hy : B[k]? = some B[k] := List.getElem?_eq_getElem hkB
      have ra := flwL_at A k hkA
      have rb := flwL_at B k hkB
      have hlA : k * 3 + 3 ≤ (flwL A).length := by rw [flwL_len]; omega
      have hlB : k * 3 + 3 ≤ (flwL B).length := by rw [flwL_len]; omega
      have HT := Lib.hid ht
      clear ht
      generalize A[k] = x at *
      generalize B[k] = y at *
      obtain ⟨ba, oa, rfl, _⟩ := (HRA.out _ H).lt (by omega)
      obtain ⟨bb, ob, rfl, _⟩ := (HRB.out _ H).lt (by omega)
      obtain ⟨xa, xb, xn⟩ := x
      obtain ⟨ya, yb, yn⟩ := y
      have hrA : (((flwL A).drop (k * 3)).take 3).toArray = flow (xa : Int) (xb : Int) xn := by rw [ra]; rfl
      have hrB : (((flwL B).drop (k * 3)).take 3).toArray = flow (ya : Int) (yb : Int) yn := by rw [rb]; rfl
      clear ra rb
      cases he : flowSame (xa : Int) (xb : Int) xn (ya : Int) (yb : Int) yn
      · have HN := Lib.hid (show A ≠ B from fun e => by
          subst e
          rw [hx] at hy
          obtain ⟨rfl, rfl, rfl⟩ := by simpa using hy
          simp [flowSame] at he)
        clear hx hy
        go_wp2_with (go_skip)
        refine wp_region_H H (by kernel_rfl) (by kernel_rfl) ?_
        repeat (first | go_big_quiet_skip | (first | ((with_reducible apply wpQ_loadRdR row_flow); (· rfl); (· rfl); (· exact HRA.out); (· rfl); (· exact hlA); (· decide); (· exact hrA); (simp only [Act.put, List.setIfInBounds_toArray, List.set_cons_zero, List.set_cons_succ])) | ((with_reducible apply wpQ_loadRdR row_flow); (· rfl); (· rfl); (· exact HRB.out); (· rfl); (· exact hlB); (· decide); (· exact hrB); (simp only [Act.put, List.setIfInBounds_toArray, List.set_cons_zero, List.set_cons_succ])) | ((with_reducible apply wpQ_neqF); (· rfl); (· rfl); (· rfl); (rw [he]); (simp only [Act.put, List.setIfInBounds_toArray, List.set_cons_zero, List.set_cons_succ]))) | go_big_quiet_step (fail))
        refine wpQuiet_nil ?_
        clear H
        intro _ H
        go_wp2_with (go_skip)
        go_ret
        rw [← HRES.out, decide_eq_false HN.out]
        exact ⟨rfl, H⟩
      · have HS := Lib.hid (show A.take (k + 1) = B.take (k + 1) by
          rw [List.take_add_one, List.take_add_one, hx, hy, HT.out]
          have h2 := he
          simp [flowSame] at h2
          obtain ⟨h3, h4, h5⟩ := h2
          have h3' : xa = ya := by omega
          have h4' : xb = yb := by omega
          subst h3' h4' h5
          rfl)
        clear hx hy
        go_wp2_with (go_skip)
        refine wp_region_H H (by kernel_rfl) (by kernel_rfl) ?_
        repeat (first | go_big_quiet_skip | (first | ((with_reducible apply wpQ_loadRdR row_flow); (· rfl); (· rfl); (· exact HRA.out); (· rfl); (· exact hlA); (· decide); (· exact hrA); (simp only [Act.put, List.setIfInBounds_toArray, List.set_cons_zero, List.set_cons_succ])) | ((with_reducible apply wpQ_loadRdR row_flow); (· rfl); (· rfl); (· exact HRB.out); (· rfl); (· exact hlB); (· decide); (· exact hrB); (simp only [Act.put, List.setIfInBounds_toArray, List.set_cons_zero, List.set_cons_succ])) | ((with_reducible apply wpQ_neqF); (· rfl); (· rfl); (· rfl); (rw [he]); (simp only [Act.put, List.setIfInBounds_toArray, List.set_cons_zero, List.set_cons_succ]))) | go_big_quiet_step (fail))
        refine wpQuiet_nil ?_
        clear H
        intro _ H
        go_wp2_with (go_skip)
        refine ⟨⟨k + 1, by omega, by go_num, HS.out, H⟩, ?measure⟩
        case measure => simp [intOf]; omega
    · obtain rfl : k = n := by omega
      have HE := Lib.hid (show A = B by
        have h := ht
        rw [List.take_of_length_le (by rw [HA.out]; exact Nat.le_refl _), List.take_of_length_le (by rw [HB.out]; exact Nat.le_refl _)] at h
        exact h)
      clear ht
      go_wp2_with (go_skip)
      go_ret
      rw [← HRES.out, decide_eq_true HE.out]
      exact ⟨rfl, H⟩
theorem sameFlows_P {A B : List Flw} (a b : Option Addr) (n m c d : Nat) (hA : A.length = n) (hB : B.length = m) (hn : n ≤ 1000000) (hm : m ≤ 1000000) (RA : ∀ w', Heap W l w' → Rd w' a (flwL A)) (RB : ∀ w', Heap W l w' → Rd w' b (flwL B)) :
    AnsH W l 12 #[.slice a n c, .slice b m d] (.bool (decide (A = B))) := by
  intro w H
  have S : AnsH W l 27 #[.slice a n c, .slice b m d] (.bool (decide (A = B))) := by
    by_cases e : n = m
    · subst e
      exact sameF_P a b n c d hA hB hn RA RB
    · rw [decide_eq_false (fun h => e (by rw [← hA, ← hB, h]))]
      exact sameF_no a b n m c d hA hB hn hm e
  clear RA RB hA hB
  generalize decide (A = B) = res at *
  go_enter Try.func12, Try.ntmps12
  go_wp2_with (first | go_skip | ((with_reducible refine AnsH.call (by assumption) H ?_); clear H; intro _ H))
  go_ret
  exact ⟨rfl, H⟩
end
end Go.Proofs.Ytbmmdfjabkpoeaa

/- A slice literal of whatever elements. -/
namespace Go.Proofs.Ytbmmdfjabkpoeaa
open Go.RowKit
set_option linter.unusedSimpArgs false
set_option linter.unusedVariables false
section
variable {W w : World} {l : List Thing}
theorem wpl_bsAny {dst : Option Tmp} {ty : TypeId} {pos : String} {after : Array Edge} {guard : Option (Nat × Bool)} {t e n size bytes : Nat} {z : Value} {ops : Array Oper} {rest : List Oper} {a : Act} {Q : Exit → Act → World → Prop} (T : SlTy Try.prog t e size bytes z) (xs : List (Nat × Operand)) (vs : List (Nat × Value)) (c : Array Value) (hw : Region.wanted ⟨dst, .buildSlice t n xs.toArray, ty, pos, after, guard⟩ (yielded ops a.tmps) = true)
    (hx : xs.map (fun (i, x) => (i, a.eval x)) = vs) (h0 : 0 < n) (h1 : n * size ≤ 65536)
    (hf : Instr.fill (fun i => some (i * size, size)) (Array.map (fun x => z.cells[x % z.cells.size]!) (Array.range (n * size))) vs = some c)
    (H : Heap W l w) (h : ∀ p w', Heap W (Cel p c e :: l) w' → wpList Try.prog ops Q rest (a.put dst (.slice (some ⟨p, 0, none⟩) n n)) w') : wpList Try.prog ops Q (⟨dst, .buildSlice t n xs.toArray, ty, pos, after, guard⟩ :: rest) a w := by
  obtain ⟨i, hi, hz, hsi, hbi⟩ := T.inf
  have h2 := T.pos
  have h3 : n ≤ n * size := Nat.le_mul_of_pos_right _ h2
  have r1 : (sizeOf e).run Try.prog w = .ok size w := by simp [sizeOf, typeInfo, hi, hsi, go_sem]
  have r2 : (zeroValue e).run Try.prog w = .ok z w := by simp [zeroValue, typeInfo, hi, hz, go_sem]
  refine BigFrame.wpList_want hw fun K hK => ?_
  have hrun : (Instr.buildSlice t n (xs.toArray.map fun (i, x) => (i, a.eval x))).run Try.prog w = .ok (.slice (some ⟨w.heap.size, 0, none⟩) n n) (w.alloc (.cells c e)) := by
    unfold Instr.buildSlice
    rw [Sem.run_bind, run_underlying T.und]
    simp only [Result.andThen_ok]
    rw [Sem.run_bind, r1]
    simp only [Result.andThen_ok]
    rw [if_neg (by omega), if_neg (by omega)]
    simp only [Sem.run_bind, r2, Result.andThen_ok, Sem.run_pure]
    have hx2 : (xs.toArray.map (fun (i, x) => (i, a.eval x))).toList = vs := by rw [← hx]; simp
    rw [hx2, hf]
    simp [newRow, go_sem]
  unfold Oper.wp execOp
  simp only [Sem.run_bind, hrun, Result.andThen_ok, Sem.run_pure]
  exact hK _ _ (h _ _ (H.alloc _ _))
end
end Go.Proofs.Ytbmmdfjabkpoeaa

/- The chapter's example of rounds. -/
namespace Go.Proofs.Ytbmmdfjabkpoeaa
open Go.RowKit
set_option linter.unusedSimpArgs false
set_option linter.unusedVariables false
set_option maxRecDepth 100000
def l8A : List Flw := [⟨1, 2, 5⟩, ⟨2, 3, 3⟩, ⟨3, 1, 4⟩]
def l8B : List Flw := [⟨1, 2, 2⟩, ⟨3, 1, 1⟩]
def l8C : List Flw := [⟨1, 2, 5⟩]
def l8D : List Flw := [⟨1, 1, 5⟩]
theorem mayD_of {F : List Flw} (h : ∀ i, i < F.length → ∃ x, F[i]? = some x ∧ okD x = true ∧ ∀ y, 0 < i → F[i - 1]? = some y → cfF y x < 0) : MayD F := by
  intro i x hi hx
  obtain ⟨y, h1, h2, h3⟩ := h i hi
  rw [hx] at h1
  cases h1
  exact ⟨h2, h3⟩
theorem l8A_may : MayD l8A := mayD_of fun i hi => by
  have : i = 0 ∨ i = 1 ∨ i = 2 := by simp [l8A] at hi; omega
  rcases this with rfl | rfl | rfl
  · exact ⟨_, rfl, by decide, fun y h => by omega⟩
  · exact ⟨_, rfl, by decide, fun y _ h => by cases h; decide⟩
  · exact ⟨_, rfl, by decide, fun y _ h => by cases h; decide⟩
theorem l8C_may : MayD l8C := mayD_of fun i hi => by
  have : i = 0 := by simp [l8C] at hi; omega
  subst this
  exact ⟨_, rfl, by decide, fun y h => by omega⟩
theorem l8D_no : ¬ MayD l8D := fun h => by
  have := (h 0 ⟨1, 1, 5⟩ (by decide) rfl).1
  simp [okD] at this
theorem r8a : roundOf (edD l8A [5, 3, 4]) = [1, 2, 3] := by decide +kernel
theorem r8b : roundOf (edD l8A [2, 0, 1]) = [] := by decide +kernel
theorem r8c : roundOf (edD l8C [5]) = [] := by decide +kernel
theorem l8A_steps : StepsAre l8A [5, 3, 4] [1, 2, 3] [(0, false), (1, false), (2, false)] := ⟨rfl, fun k hk => by
  have : k = 0 ∨ k = 1 ∨ k = 2 := by simp at hk; omega
  rcases this with rfl | rfl | rfl
  · exact ⟨0, false, rfl, ⟨1, 2, 5⟩, 5, rfl, rfl, .inl ⟨rfl, rfl, rfl, by decide⟩⟩
  · exact ⟨1, false, rfl, ⟨2, 3, 3⟩, 3, rfl, rfl, .inl ⟨rfl, rfl, rfl, by decide⟩⟩
  · exact ⟨2, false, rfl, ⟨3, 1, 4⟩, 4, rfl, rfl, .inl ⟨rfl, rfl, rfl, by decide⟩⟩⟩
theorem l8A_one : RdTr l8A 1 [2, 0, 1] := .step (N := [5, 3, 4]) .nil (by rw [r8a]; simp) ⟨_, by rw [r8a]; exact l8A_steps, by decide⟩
theorem l8_1 : LeastOut 13 l8A 9 l8B 1 0 := .inr ⟨l8A_may, by decide, 1, _, l8A_one, by decide, .inl ⟨r8b, rfl, rfl, rfl⟩⟩
theorem l8_2 : LeastOut 13 l8A 0 [] 0 13 := .inr ⟨l8A_may, by decide, 0, _, .nil, by decide, .inr ⟨by rw [show l8A.map Flw.n = [5, 3, 4] from rfl, r8a]; simp, rfl, rfl, rfl, rfl⟩⟩
theorem l8_3 : LeastOut 13 l8C 0 l8C 0 0 := .inr ⟨l8C_may, by decide, 0, _, .nil, by decide, .inl ⟨r8c, rfl, rfl, rfl⟩⟩
theorem l8_4 : LeastOut 13 l8D 9 [] 0 1 := .inl ⟨.inl l8D_no, rfl, rfl, rfl⟩
def x8A : Array Value := (flwL l8A).toArray
def x8B : Array Value := (flwL l8B).toArray
def x8D : Array Value := (flwL l8D).toArray
theorem l8_ok {F : List Flw} (h : ∀ x ∈ F, x.f ≤ 255 ∧ x.t ≤ 255 ∧ 0 ≤ x.n ∧ x.n ≤ 1000) : ∀ x ∈ F, FlwOk x := fun x hx => by have := h x hx; exact ⟨by omega, by omega, by omega, by omega⟩
section
variable {W w : World} {l : List Thing}
set_option maxHeartbeats 4000000
theorem least8_S (a : Option Addr) (n c : Nat) (F : List Flw) (q : Int) (hl : F.length = n) (hn : n ≤ 1000) (hF : ∀ x ∈ F, FlwOk x) (h63 : q ≤ 9223372036854775807) (R : ∀ l' w', (∀ x ∈ l, x ∈ l') → Heap W l' w' → Rd w' a (flwL F)) (H : Heap W l w) :
    Calls Try.prog 10 #[.slice a n c, .int .i64 q] w fun e w' => ∃ b m d L k er, e = .returned (.tuple #[.slice b m d, .int .i64 k, .int .i64 er]) ∧ L.length = m ∧ m ≤ d ∧ d ≤ maxLen ∧ LeastOut 13 F q L k er ∧ Heap W (OwnT 39 3 (.slice b m d) m (flwL L) :: l) w' := by
  refine (least8_H a n c F q hl hn hF h63 R H).mono ?_
  rintro e w' ⟨v, L, k, er, rfl, ho, H'⟩
  obtain ⟨b, d, rfl, h1, h2⟩ := OwnT.form0 (H'.ok _ List.mem_cons_self)
  exact ⟨b, _, d, L, k, er, rfl, rfl, h1, h2, ho, H'⟩
theorem lives08_H (H : Heap W l w) : Calls Try.prog 8 #[] w fun e w' => e = .returned (.bool true) ∧ Heap W l w' := by
  go_enter Try.func8, Try.ntmps8
  go_wp2_with (first
    | go_skip
    | ((with_reducible show wpList _ _ _ (_ :: _) _ _); (with_reducible apply wpl_bsAny (n := 3) slF _ _ x8A); (· rfl); (· rfl); (· decide); (· decide); (· kernel_rfl); (· exact H); (clear H; intro pA _ H); (simp only [Act.put, List.setIfInBounds_toArray, List.set_cons_zero, List.set_cons_succ])))
  refine (least8_S (some ⟨pA, 0, none⟩) 3 3 l8A 9 rfl (by omega) (l8_ok (by decide)) (by omega) (fun l' w' hh H' => H'.celRd (c := x8A) (hh _ List.mem_cons_self)) H).mono ?_
  clear H
  rintro _ _ ⟨b1, m1, d1, L, k, er, rfl, hm, hc1, hx1, ho, H⟩
  obtain ⟨rfl, rfl, rfl⟩ := ho.det l8_1
  obtain rfl : m1 = 2 := hm.symm
  clear hm ho
  go_wp2_with (go_skip)
  refine (least8_S (some ⟨pA, 0, none⟩) 3 3 l8A 0 rfl (by omega) (l8_ok (by decide)) (by omega) (fun l' w' hh H' => H'.celRd (c := x8A) (hh _ (List.mem_cons_of_mem _ List.mem_cons_self))) H).mono ?_
  clear H
  rintro _ _ ⟨b2, m2, d2, L, k, er, rfl, hm, hc2, hx2, ho, H⟩
  obtain ⟨rfl, rfl, rfl⟩ := ho.det l8_2
  obtain rfl : m2 = 0 := hm.symm
  clear hm ho
  go_wp2_with (go_skip)
  refine (least8_S (some ⟨pA, 0, none⟩) 1 3 l8C 0 rfl (by omega) (l8_ok (by decide)) (by omega) (fun l' w' hh H' => (H'.celRd (c := x8A) (hh _ (List.mem_cons_of_mem _ (List.mem_cons_of_mem _ List.mem_cons_self)))).takeN 3) H).mono ?_
  clear H
  rintro _ _ ⟨b3, m3, d3, L, k, er, rfl, hm, hc3, hx3, ho, H⟩
  obtain ⟨rfl, rfl, rfl⟩ := ho.det l8_3
  obtain rfl : m3 = 1 := hm.symm
  clear hm ho
  go_wp2_with (first | go_skip | ((with_reducible show wpList _ _ _ (_ :: _) _ _); (with_reducible apply wpl_bsAny (n := 1) slF _ _ x8D); (· rfl); (· rfl); (· decide); (· decide); (· kernel_rfl); (· exact H); (clear H; intro pD _ H); (simp only [Act.put, List.setIfInBounds_toArray, List.set_cons_zero, List.set_cons_succ])))
  refine (least8_S (some ⟨pD, 0, none⟩) 1 1 l8D 9 rfl (by omega) (l8_ok (by decide)) (by omega) (fun l' w' hh H' => H'.celRd (c := x8D) (hh _ List.mem_cons_self)) H).mono ?_
  clear H
  rintro _ _ ⟨b4, m4, d4, L, k, er, rfl, hm, hc4, hx4, ho, H⟩
  obtain ⟨rfl, rfl, rfl⟩ := ho.det l8_4
  obtain rfl : m4 = 0 := hm.symm
  clear hm ho
  go_wp2_with (first | go_skip | ((with_reducible show wpList _ _ _ (_ :: _) _ _); (with_reducible apply wpl_bsAny (n := 2) slF _ _ x8B); (· rfl); (· rfl); (· decide); (· decide); (· kernel_rfl); (· exact H); (clear H; intro pB _ H); (simp only [Act.put, List.setIfInBounds_toArray, List.set_cons_zero, List.set_cons_succ])))
  have S1 := sameFlows_P (W := W) (l := Cel pB x8B 39 :: OwnT 39 3 (.slice b4 0 d4) 0 (flwL []) :: Cel pD x8D 39 :: OwnT 39 3 (.slice b3 1 d3) 1 (flwL l8C) :: OwnT 39 3 (.slice b2 0 d2) 0 (flwL []) :: OwnT 39 3 (.slice b1 2 d1) 2 (flwL l8B) :: Cel pA x8A 39 :: l) (A := l8B) (B := l8B) b1 (some ⟨pB, 0, none⟩) 2 2 d1 2 rfl rfl (by omega) (by omega) (fun w' h => h.ownRd (by (repeat (first | (with_reducible exact List.mem_cons_self) | with_reducible apply List.mem_cons_of_mem)))) (fun w' h => h.celRd (c := x8B) List.mem_cons_self)
  rw [decide_eq_true rfl] at S1
  refine (S1 _ H).mono ?_
  clear H S1
  rintro _ _ ⟨rfl, H⟩
  go_wp2_with (go_skip)
  have S1 := sameFlows_P (W := W) (l := Cel pB x8B 39 :: OwnT 39 3 (.slice b4 0 d4) 0 (flwL []) :: Cel pD x8D 39 :: OwnT 39 3 (.slice b3 1 d3) 1 (flwL l8C) :: OwnT 39 3 (.slice b2 0 d2) 0 (flwL []) :: OwnT 39 3 (.slice b1 2 d1) 2 (flwL l8B) :: Cel pA x8A 39 :: l) (A := l8C) (B := l8C) b3 (some ⟨pA, 0, none⟩) 1 1 d3 3 rfl rfl (by omega) (by omega) (fun w' h => h.ownRd (by (repeat (first | (with_reducible exact List.mem_cons_self) | with_reducible apply List.mem_cons_of_mem)))) (fun w' h => (h.celRd (p := pA) (c := x8A) (t := 39) (by (repeat (first | (with_reducible exact List.mem_cons_self) | with_reducible apply List.mem_cons_of_mem)))).takeN 3)
  rw [decide_eq_true rfl] at S1
  refine (S1 _ H).mono ?_
  clear H S1
  rintro _ _ ⟨rfl, H⟩
  go_wp2_with (go_skip)
  go_ret
  exact ⟨rfl, H.tail.tail.tail.tail.tail.tail.tail⟩
end
end Go.Proofs.Ytbmmdfjabkpoeaa

/- How an argument's reading gives what a walk asks of it. -/
namespace Go.Proofs.Ytbmmdfjabkpoeaa
open Go.ChangeShapes Go.WideShapes Go.ChangeAt Go.RowKit

theorem ints_bytes : ∀ (zs : List Int), (∀ n ∈ zs, (Lit.int .u8 n).wf = true) → ∃ bs : List (BitVec 8), zs = bs.map I8
  | [], _ => ⟨[], rfl⟩
  | z :: zs, h => by
    obtain ⟨bs, rfl⟩ := ints_bytes zs (fun n hn => h n (List.mem_cons_of_mem _ hn))
    have hz := h z (List.mem_cons_self ..)
    have hb := bounds_u8 hz
    obtain ⟨b, rfl⟩ := exists_I8 z (by omega) (by omega)
    exact ⟨b :: bs, rfl⟩

theorem Rd.ofCells {w : World} {x : Addr} {xs : List Value} (h : ∀ i, (hi : i < xs.length) → w.cell? (x.add i) = some xs[i]) : Rd w (some x) xs := by
  obtain ⟨b, o, sp⟩ := x
  intro i hi
  have h0 := h 0 (by omega)
  have hsp : sp = none := by
    rcases sp with _ | s
    · rfl
    · simp only [Addr.add, if_true, World.cell?] at h0
      split at h0 <;> simp at h0
  subst hsp
  exact ⟨b, o, rfl, by rw [← addr_add]; exact h i hi⟩

/-- A slice of bytes that came in. -/
structure IsBytes (w : World) (a : Option Addr) (n c : Nat) (zs : List (BitVec 8)) : Prop where
  len : n = zs.length
  cap : n ≤ c
  max : c ≤ maxLen
  rd : Rd w a (zs.map B8)

theorem open_bytes {H : Type} {enc : TypeId × Value → H} {P : Program} {W : World} {held : Bool} {t e : TypeId} {v : Value} {d : DataW H} {p : List MemPlace} {r : Reach} {base : Nat}
    (ht : P.underlying t = some (.slice e)) (he : P.underlying e = some (.int .u8)) (hc : P.cellsOf e = 1) (hv : Value.okWide P W r base t v)
    (h : DataW.Trod enc P W 0 (fun _ => true) held t v d p) : ∃ a n c zs, v = .slice a n c ∧ IsBytes W a n c zs := by
  obtain ⟨a, n, c, rfl⟩ := okWide_slice ht hv
  obtain ⟨fuel, hf⟩ := h
  rcases open_ints ht he hc hf with ⟨hcs, _⟩ | ⟨x, l, c', zs, hcs, _, hl, hm, hz, _, hcell, hwz⟩
  · simp [Value.cells] at hcs
    obtain ⟨rfl, rfl, rfl⟩ := hcs
    exact ⟨none, 0, 0, [], rfl, rfl, Nat.le_refl _, by unfold maxLen; omega, Rd.nil _ _⟩
  · simp [Value.cells] at hcs
    obtain ⟨rfl, rfl, rfl⟩ := hcs
    obtain ⟨bs, rfl⟩ := ints_bytes zs hwz
    rw [if_pos rfl] at hz
    refine ⟨_, n, c, bs.take n, rfl, ?_, hl, hm, Rd.ofCells fun i hi => ?_⟩
    · simp at hz ⊢; omega
    · simp at hi hz
      rw [hcell i (by simp; omega)]
      simp [List.getD_eq_getElem?_getD, B8, show i < bs.length by omega]
end Go.Proofs.Ytbmmdfjabkpoeaa

/- Arguments of whatever type, opened: a value's cells are those of its parts, one behind the other; a slice's elements likewise, however deep. -/
namespace Go.Proofs.Ytbmmdfjabkpoeaa
open Go.ChangeShapes Go.WideShapes Go.ChangeAt Go.RowKit
set_option linter.unusedVariables false
set_option linter.unusedSimpArgs false

/-- The parts of fields, one behind the other; none, if they do not lie so. -/
def flatFs (P : Program) (g : TypeId → Option (List TypeId)) : Nat → List Field → Option (List TypeId)
  | _, [] => some []
  | o, f :: fs => (g f.type).bind fun ts => if f.offset = o ∧ ts.length = P.cellsOf f.type then (flatFs P g (o + ts.length) fs).map (ts ++ ·) else none
def repFlat (ts : List TypeId) : Nat → List TypeId
  | 0 => []
  | n + 1 => ts ++ repFlat ts n
/-- The one-cell parts of a type. -/
def flat (P : Program) : Nat → TypeId → Option (List TypeId)
  | 0, _ => none
  | d + 1, t => match P.underlying t with
    | some (.int _) => some [t]
    | some .bool => some [t]
    | some (.slice _) => some [t]
    | some (.struct fs) => (flatFs P (flat P d) 0 fs.toList).bind fun ts => if ts.length = P.cellsOf t then some ts else none
    | some (.array n e) => (flat P d e).bind fun ts => if ts.length = P.cellsOf e ∧ n * ts.length = P.cellsOf t then some (repFlat ts n) else none
    | _ => none
section
variable {H : Type} {enc : TypeId × Value → H} {P : Program} {w : World} {base : Nat} {spare : Nat → Bool} {held : Bool}
/-- What a cell of such a part holds. -/
def PartOk (enc : TypeId × Value → H) (P : Program) (w : World) (base : Nat) (spare : Nat → Bool) (held : Bool) (u : TypeId) (v : Value) : Prop := ∃ m y, DataW.trod enc P w base spare held m u [v] = some y
theorem flatFs_spec {g : TypeId → Option (List TypeId)}
    (hg : ∀ (t : TypeId) (ts : List TypeId), g t = some ts → ∀ (fuel : Nat) (cs : List Value) (x : DataW H × List MemPlace), DataW.trod enc P w base spare held fuel t cs = some x → cs.length = ts.length ∧ ∀ (i : Nat) (u : TypeId), ts[i]? = some u → ∃ v, cs[i]? = some v ∧ PartOk enc P w base spare held u v) (cs : List Value) :
    ∀ (fs : List Field) (o : Nat) (ts : List TypeId), flatFs P g o fs = some ts → (∀ f ∈ fs, ∃ n y, DataW.trod enc P w base spare held n f.type ((cs.drop f.offset).take (P.cellsOf f.type)) = some y) →
      ∀ (i : Nat) (u : TypeId), ts[i]? = some u → ∃ v, cs[o + i]? = some v ∧ PartOk enc P w base spare held u v := by
  intro fs
  induction fs with
  | nil =>
    intro o ts h _ i u hu
    simp [flatFs] at h
    subst h
    simp at hu
  | cons f fs ih =>
    intro o ts h hall i u hu
    simp only [flatFs, Option.bind_eq_some_iff] at h
    obtain ⟨t1, h1, h2⟩ := h
    split at h2
    · rename_i hc
      obtain ⟨t2, h3, rfl⟩ := Option.map_eq_some_iff.1 h2
      obtain ⟨n, y, hy⟩ := hall f (List.mem_cons_self ..)
      obtain ⟨hl, hp⟩ := hg _ _ h1 _ _ _ hy
      by_cases hi : i < t1.length
      · rw [List.getElem?_append_left hi] at hu
        obtain ⟨v, hv, hk⟩ := hp i u hu
        refine ⟨v, ?_, hk⟩
        rw [hc.1, List.getElem?_take] at hv
        split at hv
        · rw [List.getElem?_drop] at hv; exact hv
        · cases hv
      · rw [List.getElem?_append_right (by omega)] at hu
        obtain ⟨v, hv, hk⟩ := ih _ _ h3 (fun f hf => hall f (List.mem_cons_of_mem _ hf)) _ _ hu
        exact ⟨v, by rw [← hv]; congr 1; omega, hk⟩
    · cases h2
theorem repFlat_len (ts : List TypeId) : ∀ n, (repFlat ts n).length = n * ts.length
  | 0 => by simp [repFlat]
  | n + 1 => by simp [repFlat, repFlat_len ts n, Nat.add_mul]; omega
theorem repFlat_spec {cs : List Value} {ts : List TypeId} {L : Nat} (hL : ts.length = L) (e : TypeId) :
    ∀ (n k : Nat), (∀ (i : Nat), i < n → ∀ (j : Nat) (u : TypeId), ts[j]? = some u → ∃ v, ((cs.drop ((k + i) * L)).take L)[j]? = some v ∧ PartOk enc P w base spare held u v) →
      ∀ (i : Nat) (u : TypeId), (repFlat ts n)[i]? = some u → ∃ v, cs[k * L + i]? = some v ∧ PartOk enc P w base spare held u v := by
  intro n
  induction n with
  | zero => intro k _ i u hu; simp [repFlat] at hu
  | succ n ih =>
    intro k hall i u hu
    simp only [repFlat] at hu
    by_cases hi : i < ts.length
    · rw [List.getElem?_append_left hi] at hu
      obtain ⟨v, hv, hk⟩ := hall 0 (by omega) i u hu
      refine ⟨v, ?_, hk⟩
      rw [List.getElem?_take] at hv
      split at hv
      · rw [List.getElem?_drop] at hv; simpa using hv
      · cases hv
    · rw [List.getElem?_append_right (by omega)] at hu
      obtain ⟨v, hv, hk⟩ := ih (k + 1) (fun i hi j u hu => by have := hall (i + 1) (by omega) j u hu; rwa [show k + (i + 1) = k + 1 + i by omega] at this) _ _ hu
      exact ⟨v, by rw [← hv]; congr 1; rw [Nat.add_mul]; omega, hk⟩
theorem flat_spec : ∀ (d : Nat) (t : TypeId) (ts : List TypeId), flat P d t = some ts → ∀ (fuel : Nat) (cs : List Value) (x : DataW H × List MemPlace), DataW.trod enc P w base spare held fuel t cs = some x →
    cs.length = ts.length ∧ ∀ (i : Nat) (u : TypeId), ts[i]? = some u → ∃ v, cs[i]? = some v ∧ PartOk enc P w base spare held u v := by
  intro d
  induction d with
  | zero => intro t ts h; simp [flat] at h
  | succ d ih =>
    intro t ts h fuel cs x hx
    have one : ∀ v, cs = [v] → ts = [t] → cs.length = ts.length ∧ ∀ (i : Nat) (u : TypeId), ts[i]? = some u → ∃ v, cs[i]? = some v ∧ PartOk enc P w base spare held u v := by
      rintro v rfl rfl
      refine ⟨rfl, fun i u hu => ?_⟩
      rcases i with _ | i
      · simp at hu; subst hu; exact ⟨v, rfl, _, _, hx⟩
      · simp at hu
    unfold flat at h
    split at h
    · rename_i k hk
      obtain ⟨n, rfl, _⟩ := DataW.trod_int hk hx
      exact one _ rfl (by simpa using h.symm)
    · rename_i hk
      obtain ⟨n, rfl, _⟩ := DataW.trod_bool hk hx
      exact one _ rfl (by simpa using h.symm)
    · rename_i e hk
      rcases DataW.trod_slice hk hx with ⟨rfl, _⟩ | ⟨a, len, cap, elems, rest, n, _, rfl, _⟩
      · exact one _ rfl (by simpa using h.symm)
      · exact one _ rfl (by simpa using h.symm)
    · rename_i fs hk
      simp only [Option.bind_eq_some_iff] at h
      obtain ⟨t1, h1, h2⟩ := h
      split at h2
      · rename_i hl
        cases h2
        obtain ⟨xs, m, _, _, hlen, hxs, hf⟩ := DataW.trod_struct hk hx
        refine ⟨by rw [hlen, hl], fun i u hu => ?_⟩
        have := flatFs_spec (fun t ts h => ih t ts h) cs fs.toList 0 ts h1 (fun f hf' => by
          obtain ⟨j, hj, rfl⟩ := List.getElem_of_mem hf'
          have hj' : j < fs.size := by simpa using hj
          have h3 := hf j fs[j] (by simp [hj'])
          have hj2 : j < xs.length := by omega
          exact ⟨m, xs[j], by simpa [hj2] using h3⟩) i u hu
        simpa using this
      · cases h2
    · rename_i n e hk
      simp only [Option.bind_eq_some_iff] at h
      obtain ⟨t1, h1, h2⟩ := h
      split at h2
      · rename_i hl
        cases h2
        obtain ⟨xs, m, _, _, hlen, hxs, hf⟩ := DataW.trod_array hk hx
        refine ⟨by rw [hlen, repFlat_len, hl.2], fun i u hu => ?_⟩
        have := repFlat_spec (cs := cs) hl.1 e n 0 (fun i hi j u hu => by
          have h3 := hf i hi
          have hi2 : i < xs.length := by omega
          have h4 : DataW.trod enc P w base spare held m e ((cs.drop (i * P.cellsOf e)).take (P.cellsOf e)) = some xs[i] := by rw [h3]; simp [hi2]
          rw [Nat.zero_add]
          exact (ih e t1 h1 _ _ _ h4).2 j u hu) i u hu
        simpa using this
      · cases h2
    · cases h

theorem add_add (a : Addr) (m k : Nat) : (a.add m).add k = a.add (m + k) := by
  unfold Addr.add
  by_cases hm : m = 0
  · subst hm; simp
  · by_cases hk : k = 0
    · subst hk; simp
    · simp [hm, hk]; omega
/-- What a one-cell part holds, d slices deep. -/
def LeafOk (P : Program) (w : World) : Nat → TypeId → Value → Prop
  | 0, _, _ => True
  | d + 1, u, v => match P.underlying u with
    | some (.int k) => ∃ n, v = .int k n ∧ (Lit.int k n).wf = true
    | some .bool => ∃ b, v = .bool b
    | some (.slice e) => ∃ a n c xs, v = .slice a n c ∧ n ≤ c ∧ c ≤ maxLen ∧ xs.length = n * P.cellsOf e ∧ Rd w a xs ∧ (a = none → n = 0 ∧ c = 0) ∧
        ∀ ts : List TypeId, flat P 9 e = some ts → ∀ (i j : Nat) (u' : TypeId), i < n → ts[j]? = some u' → ∃ v', xs[i * P.cellsOf e + j]? = some v' ∧ LeafOk P w d u' v'
    | _ => True
theorem cells_get {a : Addr} {n : Nat} {cs : List Value} (h : w.cells? 0 a n = some cs) : cs.length = n ∧ ∀ i, i < n → w.cell? (a.add i) = cs[i]? := by
  unfold World.cells? at h
  rw [if_pos (Nat.zero_le _)] at h
  refine ⟨by simpa using mapM_some_length h, fun i hi => ?_⟩
  have := mapM_some_get h i i (by simp [hi])
  exact this
theorem leaf_ok : ∀ (d : Nat) (u : TypeId) (v : Value), PartOk enc P w 0 (fun _ => true) held u v → LeafOk P w d u v := by
  intro d
  induction d with
  | zero => intros; trivial
  | succ d ih =>
    intro u v h
    obtain ⟨m, y, hy⟩ := h
    unfold LeafOk
    split
    · rename_i k hk
      obtain ⟨n, hv, _, hw⟩ := DataW.trod_int hk hy
      simp at hv
      exact ⟨n, hv, hw⟩
    · rename_i hk
      obtain ⟨b, hv, _⟩ := DataW.trod_bool hk hy
      simp at hv
      exact ⟨b, hv⟩
    · rename_i e hk
      rcases DataW.trod_slice hk hy with ⟨hv, _⟩ | ⟨a, len, cap, elems, rest, n, _, hv, _, _, hl, hm, hlen, hel, _, _⟩
      · simp at hv
        exact ⟨none, 0, 0, [], hv, Nat.le_refl _, by unfold maxLen; omega, by simp, Rd.nil _ _, fun _ => ⟨rfl, rfl⟩, fun ts hts i j u' hi => by omega⟩
      · simp at hv
        have each : ∀ i, i < len → ∃ cs y, w.cells? 0 (a.add (i * P.cellsOf e)) (P.cellsOf e) = some cs ∧ DataW.trod enc P w 0 (fun _ => true) held n e cs = some y := by
          intro i hi
          have h1 := hel i hi
          have hi2 : i < elems.length := by omega
          rw [List.getElem?_eq_getElem hi2] at h1
          obtain ⟨cs, h2, h3⟩ := Option.bind_eq_some_iff.1 h1
          exact ⟨cs, _, h2, h3⟩
        have cell : ∀ k, k < len * P.cellsOf e → ∃ x, w.cell? (a.add k) = some x := by
          intro k hk'
          have hpos : 0 < P.cellsOf e := Nat.pos_of_ne_zero fun h => by rw [h] at hk'; simp at hk'
          have hi : k / P.cellsOf e < len := by rw [Nat.div_lt_iff_lt_mul hpos]; exact hk'
          obtain ⟨cs, _, h1, _⟩ := each _ hi
          obtain ⟨hl, hg⟩ := cells_get h1
          have hm := Nat.mod_lt k hpos
          have := hg _ hm
          rw [add_add, Nat.mul_comm, Nat.div_add_mod] at this
          exact ⟨cs[k % P.cellsOf e], by rw [this]; simp [hl, hm]⟩
        have hxl : ((List.range (len * P.cellsOf e)).map fun j => (w.cell? (a.add j)).getD undef).length = len * P.cellsOf e := by simp
        have hget : ∀ k, k < len * P.cellsOf e → ((List.range (len * P.cellsOf e)).map fun j => (w.cell? (a.add j)).getD undef)[k]? = w.cell? (a.add k) := by
          intro k hk'
          obtain ⟨x, hx⟩ := cell k hk'
          simp [hk', hx]
        refine ⟨some a, len, cap, _, hv, hl, hm, hxl, Rd.ofCells fun k hk' => ?_, (fun h => by cases h), fun ts hts i j u' hi hj => ?_⟩
        · rw [hxl] at hk'
          rw [← hget k hk']
          exact List.getElem?_eq_getElem _
        · obtain ⟨cs, y', h1, h2⟩ := each i hi
          obtain ⟨hl, hg⟩ := cells_get h1
          obtain ⟨hlen2, hp⟩ := flat_spec 9 e ts hts _ _ _ h2
          obtain ⟨v', hv', hk'⟩ := hp j u' hj
          have hjl : j < P.cellsOf e := by have := (List.getElem?_eq_some_iff.1 hj).1; omega
          have hb : i * P.cellsOf e + j < len * P.cellsOf e := by
            have := Nat.mul_le_mul_right (P.cellsOf e) (show i + 1 ≤ len by omega)
            rw [Nat.add_mul] at this
            omega
          refine ⟨v', ?_, ih _ _ hk'⟩
          rw [hget _ hb, ← add_add, hg j hjl]
          exact hv'
    · trivial
/-- A value of a type whose parts lie one behind the other: its cells. -/
theorem open_flat {r : Reach} {b0 : Nat} {t : TypeId} {v : Value} {d : DataW H} {p : List MemPlace} {ts : List TypeId} (hs : (∃ fs, P.underlying t = some (.struct fs)) ∨ ∃ n e, P.underlying t = some (.array n e)) (hf : flat P 9 t = some ts)
    (hv : Value.okWide P w r b0 t v) (h : DataW.Trod enc P w 0 (fun _ => true) held t v d p) : ∃ cs : Array Value, v = .agg cs ∧ cs.size = ts.length ∧ ∀ (i : Nat) (u : TypeId), ts[i]? = some u → ∃ x, cs[i]? = some x ∧ ∀ d, LeafOk P w d u x := by
  have hcs : ∃ cs, v = .agg cs ∧ cs.size = P.cellsOf t := by
    unfold Value.okWide at hv
    rcases hs with ⟨fs, hs⟩ | ⟨n, e, hs⟩ <;> rw [hs] at hv <;> obtain ⟨cs, h1, h2, _⟩ := hv <;> exact ⟨cs, h1, h2⟩
  obtain ⟨cs, rfl, _⟩ := hcs
  obtain ⟨fuel, h1⟩ := h
  obtain ⟨hl, hp⟩ := flat_spec 9 t ts hf _ _ _ h1
  simp only [Value.cells] at hl hp
  refine ⟨cs, rfl, by simpa using hl, fun i u hu => ?_⟩
  obtain ⟨x, hx, hk⟩ := hp i u hu
  exact ⟨x, by simpa using hx, fun d => leaf_ok d u x hk⟩
/-- A slice's value, d slices deep. -/
theorem open_sl {r : Reach} {b0 : Nat} {t e : TypeId} {v : Value} {dd : DataW H} {p : List MemPlace} (hs : P.underlying t = some (.slice e)) (hv : Value.okWide P w r b0 t v) (h : DataW.Trod enc P w 0 (fun _ => true) held t v dd p) (d : Nat) : LeafOk P w d t v := by
  obtain ⟨a, n, c, rfl⟩ := okWide_slice hs hv
  obtain ⟨fuel, h1⟩ := h
  exact leaf_ok d t _ ⟨fuel, _, h1⟩
theorem leaf_int {u : TypeId} {k : IntKind} {v : Value} (hu : P.underlying u = some (.int k)) (h : ∀ d, LeafOk P w d u v) : ∃ n, v = .int k n ∧ (Lit.int k n).wf = true := by
  have h := h 1
  unfold LeafOk at h
  rw [hu] at h
  exact h
theorem leaf_bool {u : TypeId} {v : Value} (hu : P.underlying u = some .bool) (h : ∀ d, LeafOk P w d u v) : ∃ b, v = .bool b := by
  have h := h 1
  unfold LeafOk at h
  rw [hu] at h
  exact h
theorem leaf_slice {u e : TypeId} {v : Value} (hu : P.underlying u = some (.slice e)) {ts : List TypeId} (hf : flat P 9 e = some ts) (h : ∀ d, LeafOk P w d u v) :
    ∃ a n c xs, v = .slice a n c ∧ n ≤ c ∧ c ≤ maxLen ∧ xs.length = n * P.cellsOf e ∧ Rd w a xs ∧ (a = none → n = 0 ∧ c = 0) ∧ ∀ (i j : Nat) (u' : TypeId), i < n → ts[j]? = some u' → ∃ v', xs[i * P.cellsOf e + j]? = some v' ∧ ∀ d, LeafOk P w d u' v' := by
  have h1 := h 1
  unfold LeafOk at h1
  rw [hu] at h1
  obtain ⟨a, n, c, xs, rfl, hn, hc, hl, hr, h0, hp⟩ := h1
  refine ⟨a, n, c, xs, rfl, hn, hc, hl, hr, h0, fun i j u' hi hj => ?_⟩
  obtain ⟨v', hv', _⟩ := hp ts hf i j u' hi hj
  refine ⟨v', hv', fun d => ?_⟩
  have h2 := h (d + 1)
  unfold LeafOk at h2
  rw [hu] at h2
  obtain ⟨a2, n2, c2, xs2, he, _, _, hl2, hr2, _, hp2⟩ := h2
  simp only [Value.slice.injEq] at he
  obtain ⟨rfl, rfl, rfl⟩ := he
  obtain ⟨v2, hv2, hk⟩ := hp2 ts hf i j u' hi hj
  have e1 : xs2 = xs := by
    apply List.ext_getElem (by rw [hl2, hl])
    intro m h3 h4
    obtain ⟨b, o, e5, h5⟩ := hr m h4
    obtain ⟨b', o', e6, h6⟩ := hr2 m h3
    rw [e5] at e6
    simp only [Option.some.injEq, Addr.mk.injEq] at e6
    obtain ⟨rfl, rfl, _⟩ := e6
    rw [h5] at h6
    exact (Option.some.inj h6).symm
  subst e1
  rw [hv'] at hv2
  cases hv2
  exact hk
end
end Go.Proofs.Ytbmmdfjabkpoeaa

/- Leaves of arguments: parties, numbers. -/
namespace Go.Proofs.Ytbmmdfjabkpoeaa
open Go.ChangeShapes Go.WideShapes Go.ChangeAt Go.RowKit
theorem leaf_party {w : World} {v : Value} (h : ∀ d, LeafOk Try.prog w d 37 v) : ∃ n : Nat, v = .int .u8 n ∧ n ≤ 255 := by
  obtain ⟨n, rfl, hw⟩ := leaf_int Try.underlying37 h
  have := bounds_u8 hw
  exact ⟨n.toNat, by rw [Int.toNat_of_nonneg this.1], by omega⟩
theorem leaf_i64 {w : World} {v : Value} (h : ∀ d, LeafOk Try.prog w d 2 v) : ∃ n : Int, v = .int .i64 n ∧ -9223372036854775808 ≤ n ∧ n ≤ 9223372036854775807 := by
  obtain ⟨n, rfl, hw⟩ := leaf_int Try.underlying2 h
  exact ⟨n, rfl, (bounds_i64 hw).1, (bounds_i64 hw).2⟩
end Go.Proofs.Ytbmmdfjabkpoeaa

/- Flows as arguments: one, and lists of them. -/
namespace Go.Proofs.Ytbmmdfjabkpoeaa
open Go.ChangeShapes Go.WideShapes Go.ChangeAt Go.RowKit
set_option linter.unusedVariables false
set_option maxRecDepth 100000
theorem flat_flow : flat Try.prog 9 39 = some [37, 37, 2] := by kernel_rfl
def FlowArg (w : World) (v : Value) : Prop := ∃ x : Flw, v = .agg (flow x.f x.t x.n) ∧ FlwOk x
theorem open_flow {H : Type} {enc : TypeId × Value → H} {W : World} {held : Bool} {v : Value} {d : DataW H} {p : List MemPlace} {r : Reach} {b0 : Nat}
    (hval : Value.okWide Try.prog W r b0 39 v) (h : DataW.Trod enc Try.prog W 0 (fun _ => true) held 39 v d p) : FlowArg W v := by
  obtain ⟨cs, rfl, hn, hp⟩ := open_flat (.inl ⟨_, Try.underlying39⟩) flat_flow hval h
  obtain ⟨x0, h0, k0⟩ := hp 0 _ rfl
  obtain ⟨x1, h1, k1⟩ := hp 1 _ rfl
  obtain ⟨x2, h2, k2⟩ := hp 2 _ rfl
  obtain ⟨a, rfl, ha⟩ := leaf_party k0
  obtain ⟨b, rfl, hb⟩ := leaf_party k1
  obtain ⟨n, rfl, hn0, hn1⟩ := leaf_i64 k2
  obtain ⟨l⟩ := cs
  refine ⟨⟨a, b, n⟩, ?_, ha, hb, hn0, hn1⟩
  match l, hn with
  | [c0, c1, c2], _ => simp at h0 h1 h2; subst_vars; rfl
/-- A list of flows that came in. -/
structure FlowsArg (w : World) (a : Option Addr) (n c : Nat) (F : List Flw) : Prop where
  len : F.length = n
  cap : n ≤ c
  max : c ≤ maxLen
  rd : Rd w a (flwL F)
  ok : ∀ x ∈ F, FlwOk x
theorem flow_cellsOf : Try.prog.cellsOf 39 = 3 := by kernel_rfl
theorem flows_of {w : World} : ∀ (n : Nat) (xs : List Value), xs.length = n * 3 → (∀ (i j : Nat) (u : TypeId), i < n → ([37, 37, 2] : List TypeId)[j]? = some u → ∃ v, xs[i * 3 + j]? = some v ∧ ∀ d, LeafOk Try.prog w d u v) → ∃ F : List Flw, F.length = n ∧ xs = flwL F ∧ ∀ x ∈ F, FlwOk x
  | 0, xs, hl, _ => ⟨[], rfl, by simpa [flwL] using hl, by simp⟩
  | n + 1, xs, hl, h => by
    rcases xs with _ | ⟨c0, _ | ⟨c1, _ | ⟨c2, ys⟩⟩⟩
    · simp at hl
    · simp at hl; omega
    · simp at hl; omega
    · obtain ⟨x0, h0, k0⟩ := h 0 0 _ (by omega) rfl
      obtain ⟨x1, h1, k1⟩ := h 0 1 _ (by omega) rfl
      obtain ⟨x2, h2, k2⟩ := h 0 2 _ (by omega) rfl
      simp at h0 h1 h2
      subst h0 h1 h2
      obtain ⟨a, rfl, ha⟩ := leaf_party k0
      obtain ⟨b, rfl, hb⟩ := leaf_party k1
      obtain ⟨m, rfl, hn0, hn1⟩ := leaf_i64 k2
      obtain ⟨F, hF, rfl, hok⟩ := flows_of n ys (by simp at hl; omega) (fun i j u hi hj => by
        obtain ⟨v, hv, hk⟩ := h (i + 1) j u (by omega) hj
        refine ⟨v, ?_, hk⟩
        rw [show (i + 1) * 3 + j = (i * 3 + j) + 3 by omega] at hv
        simpa using hv)
      exact ⟨⟨a, b, m⟩ :: F, by simp [hF], by simp [flwL, flwV], fun x hx => by
        rcases List.mem_cons.1 hx with rfl | hx
        · exact ⟨ha, hb, hn0, hn1⟩
        · exact hok x hx⟩
theorem open_flows {H : Type} {enc : TypeId × Value → H} {W : World} {held : Bool} {v : Value} {d : DataW H} {p : List MemPlace} {r : Reach} {b0 : Nat}
    (hval : Value.okWide Try.prog W r b0 22 v) (h : DataW.Trod enc Try.prog W 0 (fun _ => true) held 22 v d p) : ∃ a n c F, v = .slice a n c ∧ FlowsArg W a n c F := by
  have hk := fun d => open_sl Try.underlying22 hval h d
  obtain ⟨a, n, c, xs, rfl, hn, hc, hl, hr, _, hp⟩ := leaf_slice Try.underlying22 flat_flow hk
  rw [flow_cellsOf] at hl hp
  obtain ⟨F, hF, rfl, hok⟩ := flows_of (w := W) n xs hl hp
  exact ⟨a, n, c, F, rfl, hF, hn, hc, hr, hok⟩
def FlowsV (w : World) (v : Value) : Prop := ∃ a n c F, v = .slice a n c ∧ FlowsArg w a n c F
theorem open_flowsV {H : Type} {enc : TypeId × Value → H} {W : World} {held : Bool} {v : Value} {d : DataW H} {p : List MemPlace} {r : Reach} {b0 : Nat}
    (hval : Value.okWide Try.prog W r b0 22 v) (h : DataW.Trod enc Try.prog W 0 (fun _ => true) held 22 v d p) : FlowsV W v := open_flows hval h
end Go.Proofs.Ytbmmdfjabkpoeaa

/- A ring of debts. (Plain.) -/
namespace Go.Proofs.Ytbmmdfjabkpoeaa
set_option linter.unusedSimpArgs false
set_option linter.unusedVariables false
theorem MayD.many {F : List Flw} (h : MayD F) : ∀ x ∈ F, x.f ≤ 16 ∧ x.t ≤ 16 ∧ 0 ≤ x.n ∧ x.n ≤ 1099511627776 := fun x hx => by
  obtain ⟨i, hi, rfl⟩ := List.mem_iff_getElem.1 hx
  have := h.okX (List.getElem?_eq_getElem hi)
  exact ⟨by omega, by omega, by omega, by omega⟩
/-- The i-th debt of a ring of n. -/
def rgX (n i : Nat) (v : Int) : Flw := ⟨i + 1, if i + 1 = n then 1 else i + 2, v⟩
/-- The first k debts of a ring of n. -/
def rgL (n : Nat) (V : Nat → Int) (k : Nat) : List Flw := (List.range k).map fun i => rgX n i (V i)
theorem rgL_len (n : Nat) (V : Nat → Int) (k : Nat) : (rgL n V k).length = k := by simp [rgL]
theorem rgL_at {n : Nat} {V : Nat → Int} {k i : Nat} (h : i < k) : (rgL n V k)[i]? = some (rgX n i (V i)) := by simp [rgL, h]
theorem rgL_next (n : Nat) (V : Nat → Int) (k : Nat) : rgL n V (k + 1) = rgL n V k ++ [rgX n k (V k)] := by unfold rgL; rw [List.range_succ, List.map_append]; rfl
theorem rgL_get {n : Nat} {V : Nat → Int} {k i : Nat} {x : Flw} (h : (rgL n V k)[i]? = some x) : i < k ∧ x = rgX n i (V i) := by
  have hi := (List.getElem?_eq_some_iff.1 h).1
  rw [rgL_len] at hi
  rw [rgL_at hi] at h
  exact ⟨hi, (Option.some.inj h).symm⟩
theorem rgL_may {n k : Nat} {V : Nat → Int} (h3 : 3 ≤ n) (h16 : n ≤ 16) (hk : k ≤ n) (hV : ∀ i, i < k → 1 ≤ V i ∧ V i ≤ 65536) : MayD (rgL n V k) := by
  intro i x hi hx
  obtain ⟨h1, rfl⟩ := rgL_get hx
  have hv := hV i h1
  refine ⟨?_, fun y h0 hy => ?_⟩
  · by_cases e : i + 1 = n
    · simp [okD, mayP, rgX, e]; omega
    · simp [okD, mayP, rgX, e]; omega
  · obtain ⟨h2, rfl⟩ := rgL_get hy
    exact (cfF_lt _ _).2 (.inl (by show i - 1 + 1 < i + 1; omega))
def chD (p : Nat) : Int := if p ≤ 16 then -(p : Int) else -16
def rgD (n i0 p : Nat) : Int := if 1 ≤ p ∧ p ≤ n then (if i0 + 2 ≤ p then -((p : Int) - i0 - 2) else -((p : Int) + n - i0 - 2)) else 0
theorem rgD_step {n i0 i : Nat} (hi : i < n) (h0 : i0 < n) : rgD n i0 (i + 1) - rgD n i0 (if i + 1 = n then 1 else i + 2) = if i = i0 then 1 - (n : Int) else 1 := by
  by_cases e : i + 1 = n
  · rw [if_pos e]
    unfold rgD
    repeat' split
    all_goals omega
  · rw [if_neg e]
    unfold rgD
    repeat' split
    all_goals omega
/-- A chain has nothing to cancel. -/
theorem chain_done {n : Nat} {V : Nat → Int} (h3 : 3 ≤ n) (h16 : n ≤ 16) (hV : ∀ i, i < n - 1 → 1 ≤ V i ∧ V i ≤ 65536) : roundOf (edD (rgL n V (n - 1)) ((rgL n V (n - 1)).map Flw.n)) = [] := by
  refine no_round (edD_in (rgL_may h3 h16 (by omega) hV)) ⟨chD, fun i => by unfold chD; split <;> omega, fun e he => ?_⟩
  obtain ⟨i, x, m, h1, h2, h4⟩ := edD_mem.1 he
  obtain ⟨hi, rfl⟩ := rgL_get h1
  rw [List.getElem?_map, h1] at h2
  simp at h2
  subst h2
  rcases h4 with ⟨h4, rfl⟩ | ⟨h4, rfl⟩
  · show chD (if i + 1 = n then 1 else i + 2) ≤ chD (i + 1) + -1
    rw [if_neg (by omega : ¬ i + 1 = n)]
    unfold chD
    rw [if_pos (by omega), if_pos (by omega)]
    omega
  · exact absurd h4 (by show ¬ V i < V i; omega)
section
variable {n : Nat} {V : Nat → Int} (h3 : 3 ≤ n) (h16 : n ≤ 16) (hV : ∀ i, i < n → 1 ≤ V i ∧ V i ≤ 65536)
include h3 h16 hV
theorem ring_found : roundOf (edD (rgL n V n) ((rgL n V n).map Flw.n)) ≠ [] := fun hr => by
  obtain ⟨D, h1, h2⟩ := pot_of (rgL_may h3 h16 (Nat.le_refl _) hV) (by rw [rgL_len]; omega) hr
  have hstep : ∀ i, i < n → D (if i + 1 = n then 1 else i + 2) ≤ D (i + 1) - 1 := fun i hi => by
    have := h2 ⟨i + 1, if i + 1 = n then 1 else i + 2, -1⟩ (edD_mem.2 ⟨i, rgX n i (V i), V i, rgL_at hi, by rw [List.getElem?_map, rgL_at hi]; rfl, .inl ⟨by have := hV i hi; omega, rfl⟩⟩)
    simp only at this
    omega
  have hdown : ∀ i, i < n → D (i + 1) ≤ D 1 - (i : Int) := by
    intro i
    induction i with
    | zero => intro _; simp
    | succ i ih =>
      intro hi
      have a1 := ih (by omega)
      have a2 := hstep i (by omega)
      rw [if_neg (by omega)] at a2
      show D (i + 2) ≤ D 1 - ((i + 1 : Nat) : Int)
      omega
  have a1 := hdown (n - 1) (by omega)
  have a2 := hstep (n - 1) (by omega)
  rw [if_pos (by omega)] at a2
  omega
/-- The round of a ring takes each debt once. -/
theorem ring_steps {S : List (Nat × Bool)} (hS : StepsAre (rgL n V n) ((rgL n V n).map Flw.n) (roundOf (edD (rgL n V n) ((rgL n V n).map Flw.n))) S) : (∀ x ∈ S, x.2 = false ∧ x.1 < n) ∧ ∀ i, i < n → (i, false) ∈ S := by
  have hM := rgL_may h3 h16 (Nat.le_refl _) hV
  obtain ⟨tf, C, R⟩ := edD_rnd hM (ring_found h3 h16 hV)
  generalize hT : roundOf (edD (rgL n V n) ((rgL n V n).map Flw.n)) = T at *
  have hstep : ∀ k, k < T.length → ∃ i, i < n ∧ S[k]? = some (i, false) ∧ tf k = i + 1 ∧ tf ((k + 1) % T.length) = if i + 1 = n then 1 else i + 2 := by
    intro k hk
    have hm : (k + 1) % T.length < T.length := Nat.mod_lt _ (by omega)
    obtain ⟨i, b, e1, s1⟩ := hS.2 k hk
    rw [List.getD_eq_getElem?_getD, R.get k hk, List.getD_eq_getElem?_getD, R.get _ hm] at s1
    simp only [Option.getD_some] at s1
    obtain ⟨x, m, x1, x2, x3⟩ := s1
    obtain ⟨hi, rfl⟩ := rgL_get x1
    rw [List.getElem?_map, x1] at x2
    simp at x2
    subst x2
    rcases x3 with ⟨rfl, e2, e3, _⟩ | ⟨_, _, _, e4, _⟩
    · exact ⟨i, hi, e1, e2.symm, e3.symm⟩
    · omega
  refine ⟨fun x hx => ?_, ?_⟩
  · obtain ⟨k, hk, rfl⟩ := List.mem_iff_getElem.1 hx
    obtain ⟨i, h1, h2, _⟩ := hstep k (by rw [← hS.1]; exact hk)
    rw [List.getElem?_eq_getElem hk] at h2
    rw [Option.some.inj h2]
    exact ⟨rfl, h1⟩
  · -- all are reached
    have key : ∀ d, ∀ k, k < T.length → ∃ k', k' < T.length ∧ (tf k' : Nat) = (tf k - 1 + d) % n + 1 := by
      intro d
      induction d with
      | zero =>
        intro k hk
        obtain ⟨i, h1, _, h2, _⟩ := hstep k hk
        exact ⟨k, hk, by rw [h2, Nat.add_sub_cancel, show i + 0 = i from rfl, Nat.mod_eq_of_lt h1]⟩
      | succ d ih =>
        intro k hk
        obtain ⟨k', h1, h2⟩ := ih k hk
        obtain ⟨i, g1, _, g2, g3⟩ := hstep k' h1
        refine ⟨(k' + 1) % T.length, Nat.mod_lt _ (by omega), ?_⟩
        have hi : i = (tf k - 1 + d) % n := by omega
        rw [g3, ← Nat.add_assoc, Nat.add_mod, ← hi, Nat.mod_eq_of_lt (by omega : 1 < n)]
        split
        · rename_i e; rw [e, Nat.mod_self]
        · rw [Nat.mod_eq_of_lt (by omega)]
    intro i hi
    obtain ⟨i0, g1, _, g2, _⟩ := hstep 0 (by have := R.pos; omega)
    obtain ⟨k', h1, h2⟩ := key (i + n - i0) 0 (by have := R.pos; omega)
    rw [g2, Nat.add_sub_cancel, show i0 + (i + n - i0) = i + n by omega, Nat.add_mod_right, Nat.mod_eq_of_lt hi] at h2
    obtain ⟨j, j1, j2, j3, _⟩ := hstep k' h1
    obtain rfl : j = i := by omega
    exact List.mem_of_getElem? j2
/-- The least of the first ones. -/
def lsV (V : Nat → Int) : Nat → Int
  | 0 => 1099511627776
  | k + 1 => min (lsV V k) (V k)
omit h3 h16 hV in
theorem lsV_le (V : Nat → Int) : ∀ k, lsV V k ≤ 1099511627776 ∧ ∀ i, i < k → lsV V k ≤ V i
  | 0 => ⟨Int.le_refl _, fun i hi => by omega⟩
  | k + 1 => by
    have ih := lsV_le V k
    refine ⟨by rw [lsV]; omega, fun i hi => ?_⟩
    by_cases e : i = k
    · subst e; rw [lsV]; omega
    · have := ih.2 i (by omega); rw [lsV]; omega
omit h3 h16 hV in
theorem lsV_is (V : Nat → Int) : ∀ k, lsV V k = 1099511627776 ∨ ∃ i, i < k ∧ lsV V k = V i
  | 0 => .inl rfl
  | k + 1 => by
    by_cases h : lsV V k ≤ V k
    · have e : lsV V (k + 1) = lsV V k := by rw [lsV]; omega
      rw [e]
      rcases lsV_is V k with h1 | ⟨i, h1, h2⟩
      · exact .inl h1
      · exact .inr ⟨i, by omega, h2⟩
    · exact .inr ⟨k, by omega, by rw [lsV]; omega⟩
omit h3 h16 hV in
theorem minS_is (F : List Flw) (N : List Int) : ∀ (S : List (Nat × Bool)) (m : Int), minS F N m S = m ∨ ∃ x ∈ S, minS F N m S = mostS F N x.1 x.2
  | [], m => .inl rfl
  | (j, c) :: S, m => by
    rw [minS]
    rcases minS_is F N S (min m (mostS F N j c)) with h | ⟨x, hx, h⟩
    · by_cases e : m ≤ mostS F N j c
      · left; rw [h]; omega
      · right; exact ⟨(j, c), List.mem_cons_self, by rw [h]; simp only; omega⟩
    · exact .inr ⟨x, List.mem_cons_of_mem _ hx, h⟩
theorem ring_once : ∃ N', RdTr (rgL n V n) 1 N' ∧ N' = ((rgL n V n).map Flw.n).map (· - lsV V n) ∧ roundOf (edD (rgL n V n) N') = [] := by
  have hM := rgL_may h3 h16 (Nat.le_refl _) hV
  have hne := ring_found h3 h16 hV
  have I := InvN.start hM
  obtain ⟨S, h1, h2, hnd, _⟩ := round_go hM I hne
  obtain ⟨s1, s2⟩ := ring_steps h3 h16 hV h1
  have hN : ∀ i, i < n → ((rgL n V n).map Flw.n)[i]? = some (V i) := fun i hi => by rw [List.getElem?_map, rgL_at hi]; rfl
  have hmost : ∀ i, i < n → mostS (rgL n V n) ((rgL n V n).map Flw.n) i false = V i := fun i hi => by
    unfold mostS
    rw [if_neg (by simp), List.getD_eq_getElem?_getD, hN i hi]; rfl
  have hmin : minS (rgL n V n) ((rgL n V n).map Flw.n) 1099511627776 S = lsV V n := by
    have a1 := minS_le (rgL n V n) ((rgL n V n).map Flw.n) S 1099511627776
    have a2 := lsV_le V n
    have b1 := minS_is (rgL n V n) ((rgL n V n).map Flw.n) S 1099511627776
    have b2 := lsV_is V n
    have c1 : lsV V n ≤ minS (rgL n V n) ((rgL n V n).map Flw.n) 1099511627776 S := by
      rcases b1 with e | ⟨x, hx, e⟩
      · rw [e]; exact a2.1
      · obtain ⟨e1, e2⟩ := s1 x hx
        rw [e, e1, hmost x.1 e2]
        exact a2.2 x.1 e2
    have c2 : minS (rgL n V n) ((rgL n V n).map Flw.n) 1099511627776 S ≤ lsV V n := by
      rcases b2 with e | ⟨i, hi, e⟩
      · rw [e]; exact a1.1
      · rw [e]
        have := a1.2 (i, false) (s2 i hi)
        rw [hmost i hi] at this
        exact this
    omega
  have hN' : goS (lsV V n) S ((rgL n V n).map Flw.n) = ((rgL n V n).map Flw.n).map (· - lsV V n) := by
    apply List.ext_getElem?
    intro i
    by_cases hi : i < n
    · rw [goS_at _ i false S _ hnd (s2 i hi) (by rw [List.length_map, rgL_len]; exact hi), List.getElem?_map, hN i hi, List.getD_eq_getElem?_getD, hN i hi]
      simp
      omega
    · rw [List.getElem?_eq_none (by rw [goS_len, List.length_map, rgL_len]; omega), List.getElem?_eq_none (by simp [rgL_len]; omega)]
  refine ⟨_, .step .nil hne ⟨S, h1, rfl⟩, by rw [hmin]; exact hN', ?_⟩
  rw [hmin, hN']
  have hl1 : ∃ i, i < n ∧ lsV V n = V i := by
    rcases lsV_is V n with e | h
    · have := (lsV_le V n).2 0 (by omega)
      have := hV 0 (by omega)
      omega
    · exact h
  obtain ⟨i0, hi0, e0⟩ := hl1
  refine no_round (edD_in hM) ⟨rgD n i0, fun p => by unfold rgD; split <;> (try split) <;> omega, fun e he => ?_⟩
  obtain ⟨i, x, m, g1, g2, g4⟩ := edD_mem.1 he
  obtain ⟨hi, rfl⟩ := rgL_get g1
  rw [List.getElem?_map, hN i hi] at g2
  simp at g2
  subst g2
  have hv := hV i hi
  have hle := (lsV_le V n).2 i hi
  have hpos : 1 ≤ lsV V n := by rw [e0]; exact (hV i0 hi0).1
  have hki : 0 < V i - lsV V n → i ≠ i0 := fun h e => by subst e; omega
  rcases g4 with ⟨g4, rfl⟩ | ⟨g4, rfl⟩
  · have hk := hki g4
    show rgD n i0 (if i + 1 = n then 1 else i + 2) ≤ rgD n i0 (i + 1) + -1
    have := rgD_step hi hi0
    rw [if_neg hk] at this
    omega
  · show rgD n i0 (i + 1) ≤ rgD n i0 (if i + 1 = n then 1 else i + 2) + 1
    have := rgD_step hi hi0
    by_cases e : i = i0
    · rw [if_pos e] at this; omega
    · rw [if_neg e] at this; omega
end
theorem sum_sub (v : Int) : ∀ N : List Int, (N.map (· - v)).sum = N.sum - v * (N.length : Int)
  | [] => by simp
  | m :: N => by
    have ih := sum_sub v N
    rw [List.map_cons, List.sum_cons, List.sum_cons, ih, List.length_cons, Int.natCast_add, Int.mul_add]
    simp only [Int.natCast_one, Int.mul_one]
    omega
end Go.Proofs.Ytbmmdfjabkpoeaa
