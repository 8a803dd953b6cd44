/- Part 8 of what several laws stand on: Route7b, Flow3, RouteA, Flow4, Lives05b, Grw, Map. -/
import Derived.Test.YtgobnamhdkbbeaaPayGPart7
import Derived.Sort.Grow
import Derived.Lib.Small
import Derived.Maps.RangeRun
import Derived.DeepKeys4
/- flows.Route: where nothing is wanted; of no graph; flows.Most. -/
namespace Go.Proofs.Ytgobnamhdkbbeaa
open Go.RowKit
attribute [local go_sem] Oper.semAt_some
set_option linter.unusedSimpArgs false
set_option linter.unusedVariables false
section
variable {W w : World} {l : List Thing} {p : Nat}
set_option maxRecDepth 100000
set_option maxHeartbeats 4000000
theorem route_no (gv : Option Addr) (f t : Nat) (want : Int) (hw : want ≤ 0) (H : Heap W l w) :
    Calls Try.prog 59 #[.pointer gv, .int .u8 (f : Int), .int .u8 (t : Int), .int .i64 want] w fun e w' => e = .returned (.tuple #[.slice none 0 0, .int .i64 0]) ∧ Heap W l w' := by
  have g1 : decide (want ≤ 0) = true := by simp; omega
  refine (callsIn_wide (n := 3)).1 (callsIn_of_wp_marks Try.func59 rfl trivial ?_)
  refine (wpIn_wide (n := 3)).2 ?_
  simp only [Try.ntmps59, List.size_toArray, List.length_cons, List.length_nil, Nat.reduceAdd, Nat.reduceSub, Array.replicate_succ, Array.replicate_zero, List.push_toArray, List.append_toArray, List.nil_append, List.cons_append]
  go_wp2_with (first
    | go_skip
    | ((with_reducible show wpList _ _ _ (_ :: _) _ _); (with_reducible apply wpl_boxPH); (· rfl); (· rfl); (· exact H); (clear H; intro bg _ H); (simp only [Act.put, List.setIfInBounds_toArray, List.set_cons_zero, List.set_cons_succ]))
    | ((with_reducible show wpList _ _ _ (_ :: _) _ _); (with_reducible apply wpl_boxIH); (· rfl); (· rfl); (· exact H); (clear H; intro bw _ H); (simp only [Act.put, List.setIfInBounds_toArray, List.set_cons_zero, List.set_cons_succ]))
    | ((with_reducible show wpList _ _ _ (_ :: _) _ _); (with_reducible apply wpl_allocS); (· rfl); (· exact H); (clear H; intro bp _ H); (simp only [Act.put, List.setIfInBounds_toArray, List.set_cons_zero, List.set_cons_succ]))
    | ((with_reducible show wpList _ _ _ (_ :: _) _ _); (with_reducible apply wpl_allocI); (· rfl); (· exact H); (clear H; intro bo _ H); (simp only [Act.put, List.setIfInBounds_toArray, List.set_cons_zero, List.set_cons_succ]))
    | ((with_reducible show wpList _ _ _ (_ :: _) _ _); (with_reducible apply wpl_loadCH); (· first | exact cell_i64 | exact cell_pg7); (· rfl); (· rfl); (· exact H); (· (repeat (first | (with_reducible exact List.mem_cons_self) | with_reducible apply List.mem_cons_of_mem))); (· exact one_g _); (simp only [Act.put, List.setIfInBounds_toArray, List.set_cons_zero, List.set_cons_succ]))
    | ((with_reducible show wpList _ _ _ (_ :: _) _ _); (with_reducible apply wpl_storeSH); (· exact cell_flows); (· rfl); (· rfl); (· rfl); (· exact H); (· (repeat (first | (with_reducible exact List.mem_cons_self) | with_reducible apply List.mem_cons_of_mem))); (· exact Nat.le_refl 1); (· rfl); (· (repeat (first | (with_reducible exact Repl.here) | with_reducible apply Repl.there))); (clear H; intro _ H); (simp only [Act.put, List.setIfInBounds_toArray, List.set_cons_zero, List.set_cons_succ]))
    | ((with_reducible show wpList _ _ _ (_ :: _) _ _); (with_reducible apply wpl_storeIH); (· exact cell_i64); (· rfl); (· rfl); (· rfl); (· exact H); (· (repeat (first | (with_reducible exact List.mem_cons_self) | with_reducible apply List.mem_cons_of_mem))); (· exact Nat.le_refl 1); (· rfl); (· (repeat (first | (with_reducible exact Repl.here) | with_reducible apply Repl.there))); (clear H; intro _ H); (simp only [Act.put, List.setIfInBounds_toArray, List.set_cons_zero, List.set_cons_succ])))
  refine ⟨_, results_cc cell_flows cell_i64 rfl rfl rfl H (v1 := .slice none 0 0) (v2 := .int .i64 0) (List.mem_cons_of_mem _ List.mem_cons_self) List.mem_cons_self, rfl, ?_⟩
  exact H.tail.tail.tail.tail
theorem ways_nil (f t : Nat) (H : Heap W l w) : Calls Try.prog 94 #[.pointer none, .int .u8 (f : Int), .int .u8 (t : Int)] w fun e w' => ∃ b1 b2 b3, e = .returned (wayF b1 b2 b3) ∧ Heap W (Cel b3 #[.int .u8 (t : Int)] 30 :: Cel b2 #[.int .u8 (f : Int)] 30 :: Cel b1 #[.pointer none] 28 :: l) w' := by
  go_enter Try.func94, Try.ntmps94
  go_wp2_with (first
    | go_skip
    | ((with_reducible show wpList _ _ _ (_ :: _) _ _); (with_reducible apply wpl_boxPH); (· rfl); (· rfl); (· exact H); (clear H; intro b1 _ H); (simp only [Act.put, List.setIfInBounds_toArray, List.set_cons_zero, List.set_cons_succ]))
    | ((with_reducible show wpList _ _ _ (_ :: _) _ _); (with_reducible apply wpl_boxIH); (· rfl); (· rfl); (· exact H); (clear H; intro b2 _ H); (simp only [Act.put, List.setIfInBounds_toArray, List.set_cons_zero, List.set_cons_succ])))
  go_ret
  exact ⟨b1, _, _, rfl, H⟩
theorem route_nil (f t : Nat) (want : Int) (hf : f ≤ 255) (ht : t ≤ 255) (hw : 0 < want) (h1 : want ≤ 9223372036854775807) (H : Heap W l w) :
    Calls Try.prog 59 #[.pointer none, .int .u8 (f : Int), .int .u8 (t : Int), .int .i64 want] w fun e w' => e = .returned (.tuple #[.slice none 0 0, .int .i64 0]) ∧ Heap W l w' := by
  have g1 : decide (want ≤ 0) = false := by simp; omega
  have hcn := copy_nil
  refine (callsIn_wide (n := 3)).1 (callsIn_of_wp_marks Try.func59 rfl trivial ?_)
  refine (wpIn_wide (n := 3)).2 ?_
  simp only [Try.ntmps59, List.size_toArray, List.length_cons, List.length_nil, Nat.reduceAdd, Nat.reduceSub, Array.replicate_succ, Array.replicate_zero, List.push_toArray, List.append_toArray, List.nil_append, List.cons_append]
  go_wp2_with (first
    | go_skip
    | ((with_reducible refine Ans.callH (by assumption) H ?_); clear H; intro _ H)
    | ((with_reducible show wpList _ _ _ (_ :: _) _ _); (with_reducible apply wpl_boxPH); (· rfl); (· rfl); (· exact H); (clear H; intro bg _ H); (simp only [Act.put, List.setIfInBounds_toArray, List.set_cons_zero, List.set_cons_succ]))
    | ((with_reducible show wpList _ _ _ (_ :: _) _ _); (with_reducible apply wpl_boxIH); (· rfl); (· rfl); (· exact H); (clear H; intro bw _ H); (simp only [Act.put, List.setIfInBounds_toArray, List.set_cons_zero, List.set_cons_succ]))
    | ((with_reducible show wpList _ _ _ (_ :: _) _ _); (with_reducible apply wpl_allocS); (· rfl); (· exact H); (clear H; intro bp _ H); (simp only [Act.put, List.setIfInBounds_toArray, List.set_cons_zero, List.set_cons_succ]))
    | ((with_reducible show wpList _ _ _ (_ :: _) _ _); (with_reducible apply wpl_allocI); (· rfl); (· exact H); (clear H; intro bo _ H); (simp only [Act.put, List.setIfInBounds_toArray, List.set_cons_zero, List.set_cons_succ]))
    | ((with_reducible show wpList _ _ _ (_ :: _) _ _); (with_reducible apply wpl_loadCH); (· first | exact cell_i64 | exact cell_pg7); (· rfl); (· rfl); (· exact H); (· (repeat (first | (with_reducible exact List.mem_cons_self) | with_reducible apply List.mem_cons_of_mem))); (· exact one_g _); (simp only [Act.put, List.setIfInBounds_toArray, List.set_cons_zero, List.set_cons_succ]))
    | ((with_reducible show wpList _ _ _ (_ :: _) _ _); (with_reducible apply wpl_storePH); (· exact cell_pg7); (· rfl); (· rfl); (· rfl); (· exact H); (· (repeat (first | (with_reducible exact List.mem_cons_self) | with_reducible apply List.mem_cons_of_mem))); (· exact Nat.le_refl 1); (· rfl); (· (repeat (first | (with_reducible exact Repl.here) | with_reducible apply Repl.there))); (clear H; intro _ H); (simp only [Act.put, List.setIfInBounds_toArray, List.set_cons_zero, List.set_cons_succ])))
  clear hcn
  refine (ways_nil f t H).mono ?_
  clear H
  rintro e w2 ⟨b1, b2, b3, rfl, H⟩
  go_wp2_with (go_skip)
  refine rangeP (fun D w' => Heap W (ObjT D (.deferred (some [])) :: Cel b3 #[.int .u8 (t : Int)] 30 :: Cel b2 #[.int .u8 (f : Int)] 30 :: Cel b1 #[.pointer none] 28 :: Cel bo #[.int .i64 0] 2 :: Cel bp #[.slice none 0 0] 24 :: Cel bw #[.int .i64 want] 2 :: Cel bg #[.pointer none] 28 :: l) w') (gf := 114) (lb := #[.pointer (some ⟨b1, 0, none⟩), .pointer (some ⟨b2, 0, none⟩), .pointer (some ⟨b3, 0, none⟩)]) rfl Try.call114 H ?tail ?loop
  case tail =>
    clear H
    intro D w3 H
    have CL := clipF_nil
    go_wp2_with (go_skip)
    refine wp_region_F [3, 4] [3, 4] [0, 1, 2, 3, 4] (Keeps [Cel bo #[.int .i64 0] 2]) (Keeps [Cel bp #[.slice none 0 0] 24]) H (by kernel_rfl) (by kernel_rfl) ?_
    (apply wpF_early; (· rfl); (· rfl); (· kernel_rfl); (· rfl); (· exact Nat.le_of_ble_eq_true rfl); (· exact keeps1 (by (repeat (first | (with_reducible exact List.mem_cons_self) | with_reducible apply List.mem_cons_of_mem)))); (· intro l0 hs0 w0 H0; (first | ((with_reducible apply wpQ_loadCH); (· exact cell_flows); (· rfl); (· rfl); (· exact hs0 _ List.mem_cons_self); (· exact one_g _); (simp only [Act.put, List.setIfInBounds_toArray, List.set_cons_zero, List.set_cons_succ]))); (refine wpQuiet_nil ?_); (simp only [Array.getD_eq_getD_getElem?, List.getElem?_toArray, List.getElem?_cons_succ, List.getElem?_cons_zero, Option.getD_some]; rfl)); (simp only [Act.put, List.setIfInBounds_toArray, List.set_cons_zero, List.set_cons_succ]))
    (apply wpF_step; (· rfl); (· rfl); (· rfl); (· exact Nat.le_of_ble_eq_true rfl); (· exact keeps1 (by (repeat (first | (with_reducible exact List.mem_cons_self) | with_reducible apply List.mem_cons_of_mem)))); (· intro l0 hs0 w0 H0; (first | go_big_quiet_skip | fail | go_big_quiet_step (exact CL.quietH)); (refine wpQuiet_nil ?_); (simp only [Array.getD_eq_getD_getElem?, List.getElem?_toArray, List.getElem?_cons_succ, List.getElem?_cons_zero, Option.getD_some]; rfl)); (simp only [Act.put, List.setIfInBounds_toArray, List.set_cons_zero, List.set_cons_succ]))
    (apply wpF_step; (· rfl); (· rfl); (· rfl); (· exact Nat.le_of_ble_eq_true rfl); (· exact keeps1 (by (repeat (first | (with_reducible exact List.mem_cons_self) | with_reducible apply List.mem_cons_of_mem)))); (· intro l0 hs0 w0 H0; (first | go_big_quiet_skip | ((with_reducible apply wpQ_loadCH); (· exact cell_i64); (· rfl); (· rfl); (· exact hs0 _ List.mem_cons_self); (· exact one_g _); (simp only [Act.put, List.setIfInBounds_toArray, List.set_cons_zero, List.set_cons_succ])) | go_big_quiet_step (fail)); (refine wpQuiet_nil ?_); (simp only [Array.getD_eq_getD_getElem?, List.getElem?_toArray, List.getElem?_cons_succ, List.getElem?_cons_zero, Option.getD_some]; rfl)); (simp only [Act.put, List.setIfInBounds_toArray, List.set_cons_zero, List.set_cons_succ]))
    refine wpF_storeS (v := .slice none 0 0) cell_flows rfl rfl rfl rfl rfl ⟨rfl, rfl⟩ (by (repeat (first | (with_reducible exact List.mem_cons_self) | with_reducible apply List.mem_cons_of_mem))) (by (repeat (first | (with_reducible exact Repl.here) | with_reducible apply Repl.there))) rfl (keeps1 (by (repeat (first | (with_reducible exact List.mem_cons_self) | with_reducible apply List.mem_cons_of_mem)))) ?_
    (simp only [Act.put, List.setIfInBounds_toArray, List.set_cons_zero, List.set_cons_succ])
    refine wpF_storeS (v := .int .i64 0) cell_i64 rfl rfl rfl rfl rfl ⟨rfl, rfl⟩ (by (repeat (first | (with_reducible exact List.mem_cons_self) | with_reducible apply List.mem_cons_of_mem))) (by (repeat (first | (with_reducible exact Repl.here) | with_reducible apply Repl.there))) rfl (keeps1 (by (repeat (first | (with_reducible exact List.mem_cons_self) | with_reducible apply List.mem_cons_of_mem)))) ?_
    (simp only [Act.put, List.setIfInBounds_toArray, List.set_cons_zero, List.set_cons_succ])
    (refine wpF_nil ?_; clear H; intro _ H)
    go_wp2_with (go_skip)
    have hK : _ = some (Obj.deferred (some [])) := H.ok (ObjT D (.deferred (some []))) (by (repeat (first | (with_reducible exact List.mem_cons_self) | with_reducible apply List.mem_cons_of_mem)))
    have H5 := (H.pull .here).putO (o' := .deferred none)
    refine ⟨by simp, .inl ⟨_, _, rfl, run_takeDeferred hK, ?_⟩⟩
    refine ⟨_, results_cc cell_flows cell_i64 rfl rfl rfl H5 (v1 := .slice none 0 0) (v2 := .int .i64 0) (by (repeat (first | (with_reducible exact List.mem_cons_self) | with_reducible apply List.mem_cons_of_mem))) (by (repeat (first | (with_reducible exact List.mem_cons_self) | with_reducible apply List.mem_cons_of_mem))), rfl, ?_⟩
    exact H5.tail.tail.tail.tail.tail.tail.tail.tail
  case loop =>
  intro fn D w3 r0 hr0 H
  have HR0 := Lib.hid hr0
  clear hr0
  refine callsIn_of_wp Try.func114 rfl trivial ?_ rfl
  simp only [Try.ntmps114, List.size_toArray, List.length_cons, List.length_nil, Nat.reduceAdd, Nat.reduceSub, Array.replicate_succ, Array.replicate_zero, List.push_toArray, List.append_toArray, List.nil_append, List.cons_append]
  gi_wp2
  refine wpIn_loop_once ?_
  refine wpIn_block ?_
  refine wpIn_seq ?_
  refine (wpIn_wide (n := 2)).2 ?_
  go_wp2_with (first
    | go_skip
    | ((with_reducible show wpList _ _ _ (_ :: _) _ _); (with_reducible apply wpl_loadCH); (· first | exact cell_party | exact cell_pg7); (· rfl); (· rfl); (· exact H); (· (repeat (first | (with_reducible exact List.mem_cons_self) | with_reducible apply List.mem_cons_of_mem))); (· exact one_g _); (simp only [Act.put, List.setIfInBounds_toArray, List.set_cons_zero, List.set_cons_succ])))
  refine (short_H (gv := .pointer none) f t hf ht CapsOf.nil H).mono ?_
  clear H
  rintro e w4 ⟨v2, L, rfl, hs, H⟩
  obtain rfl := short_zero hs
  obtain ⟨a2, c2, rfl⟩ := OwnT.form0 (H.ok _ List.mem_cons_self)
  clear hs
  go_wp2_with (go_skip)
  gi_wp2
  refine ⟨fun _ h => (by cases h), ?_⟩
  gi_wp2
  refine bodyPost_ret (results_none rfl _ _ _) rfl ?_
  exact ⟨_, r0, _, rfl, (by rw [HR0.out]; exact fun h => by cases h), .inl (by rw [HR0.out]), H.tail, fun w' H' => H'⟩
theorem most_H (c0 : Caps) (f t : Nat) (hf : f ≤ 255) (ht : t ≤ 255) (hc : PlayC c0) (m1 : Gr p c0 ∈ l) (H : Heap W l w) :
    Calls Try.prog 60 #[.pointer (some ⟨p, 0, none⟩), .int .u8 (f : Int), .int .u8 (t : Int)] w fun e w' => ∃ P got, e = .returned (.int .i64 got) ∧ RouteOut f t c0 9223372036854775807 P got ∧ Heap W l w' := by
  have C := route_H (p := p) c0 f t 9223372036854775807 hf ht (by omega) (by omega) hc m1 H
  clear H m1 hc
  go_enter Try.func60, Try.ntmps60
  go_wp2_with (go_skip)
  refine C.mono ?_
  clear C
  rintro e w1 ⟨v, P, got, rfl, hr, H⟩
  have HR := Lib.hid hr
  clear hr
  go_wp2_with (go_skip)
  go_ret
  exact ⟨P, got, rfl, HR.out, H.tail⟩
theorem most_nil (f t : Nat) (hf : f ≤ 255) (ht : t ≤ 255) (H : Heap W l w) :
    Calls Try.prog 60 #[.pointer none, .int .u8 (f : Int), .int .u8 (t : Int)] w fun e w' => e = .returned (.int .i64 0) ∧ Heap W l w' := by
  have C := route_nil f t 9223372036854775807 hf ht (by omega) (by omega) H
  clear H
  go_enter Try.func60, Try.ntmps60
  go_wp2_with (go_skip)
  refine C.mono ?_
  clear C
  rintro e w1 ⟨rfl, H⟩
  go_wp2_with (go_skip)
  go_ret
  exact ⟨rfl, H⟩
end
end Go.Proofs.Ytgobnamhdkbbeaa

/- Flows: what goes over a cut (plain). -/
namespace Go.Proofs.Ytgobnamhdkbbeaa
open Go.RowKit
set_option linter.unusedSimpArgs false
set_option linter.unusedVariables false
def sumN : Nat → (Nat → Int) → Int
  | 0, _ => 0
  | k + 1, g => sumN k g + g k
theorem sumN_congr {g h : Nat → Int} : ∀ k, (∀ i, i < k → g i = h i) → sumN k g = sumN k h
  | 0, _ => rfl
  | k + 1, e => by rw [sumN, sumN, sumN_congr k (fun i hi => e i (by omega)), e k (by omega)]
theorem sumN_nonneg {g : Nat → Int} : ∀ k, (∀ i, i < k → 0 ≤ g i) → 0 ≤ sumN k g
  | 0, _ => Int.le_refl _
  | k + 1, e => by
    rw [sumN]
    have := sumN_nonneg k (fun i hi => e i (by omega))
    have := e k (by omega)
    omega
theorem sumN_zero {g : Nat → Int} : ∀ k, (∀ i, i < k → g i = 0) → sumN k g = 0
  | 0, _ => rfl
  | k + 1, e => by rw [sumN, sumN_zero k (fun i hi => e i (by omega)), e k (by omega)]; rfl
theorem sumN_upd {g : Nat → Int} {a : Nat} {v : Int} : ∀ k, a < k → sumN k (fun i => if i = a then v else g i) = sumN k g - g a + v
  | 0, h => by omega
  | k + 1, h => by
    rw [sumN, sumN]
    by_cases e : k = a
    · subst e
      rw [if_pos rfl, sumN_congr k (h := g) (fun i hi => by rw [if_neg (by omega)])]
      omega
    · rw [if_neg e, sumN_upd k (by omega)]
      omega
/-- What may go out of these parties. -/
def cutS (c : Caps) (S : Nat → Bool) : Int := sumN 17 fun a => sumN 17 fun b => if S a && !S b then c a b else 0
theorem cutS_upd {c : Caps} {S : Nat → Bool} {a b : Nat} {v : Int} (ha : a < 17) (hb : b < 17) : cutS (upd2 c a b v) S = cutS c S + (if S a && !S b then v - c a b else 0) := by
  unfold cutS
  have e1 : ∀ x, sumN 17 (fun y => if S x && !S y then upd2 c a b v x y else 0) = if x = a then sumN 17 (fun y => if y = b then (if S a && !S b then v else 0) else (if S a && !S y then c a y else 0)) else sumN 17 (fun y => if S x && !S y then c x y else 0) := by
    intro x
    by_cases e : x = a
    · subst e
      rw [if_pos rfl]
      refine sumN_congr _ fun y _ => ?_
      by_cases e2 : y = b
      · subst e2
        rw [if_pos rfl, show upd2 c x y v x y = v by unfold upd2; rw [if_pos ⟨rfl, rfl⟩]]
      · rw [if_neg e2, show upd2 c x b v x y = c x y by unfold upd2; rw [if_neg (fun h => e2 h.2)]]
    · rw [if_neg e]
      refine sumN_congr _ fun y _ => ?_
      rw [show upd2 c a b v x y = c x y by unfold upd2; rw [if_neg (fun h => e h.1)]]
  rw [sumN_congr 17 (fun i _ => e1 i), sumN_upd 17 ha, sumN_upd 17 hb]
  split <;> omega
theorem cutS_push {c : Caps} {S : Nat → Bool} {a b : Nat} {m : Int} (ha : a < 17) (hb : b < 17) (h1 : 1 ≤ m) (h2 : m ≤ c a b) (hne : a ≠ b) : cutS (pushT c a b m) S = cutS c S - (if S a then m else 0) + (if S b then m else 0) := by
  rw [pushT_ok h1 h2 hne, cutS_upd hb ha, cutS_upd ha hb]
  have e : upd2 c a b (c a b - m) b a = c b a := by unfold upd2; rw [if_neg (fun h => hne h.1.symm)]
  rw [e]
  cases S a <;> cases S b <;> simp <;> omega
theorem cutS_way {d : Nat → Nat} {S : Nat → Bool} {m : Int} (h1 : 1 ≤ m) : ∀ (L : List Nat) (a z : Nat) (c : Caps), Drop1 d (a :: L) → (∀ x y, prB (a :: L) x y = true → m ≤ c x y) → (∀ x ∈ a :: L, x < 17) → (a :: L).getLast? = some z → cutS (psW c (a :: L) m) S = cutS c S - (if S a then m else 0) + (if S z then m else 0)
  | [], a, z, c, _, _, _, hz => by
    simp at hz
    subst hz
    rw [psW_end]
    omega
  | b :: L, a, z, c, hd, hf, hr, hz => by
    have ht := hd.tail
    have hab := hf a b (prB_cons.2 (.inl ⟨rfl, rfl⟩))
    have hne : a ≠ b := fun e => by rw [e] at ht; omega
    have ha := hr a List.mem_cons_self
    have hb := hr b (List.mem_cons_of_mem _ List.mem_cons_self)
    rw [psW, cutS_way h1 L b z _ ht.2 (fun u v hp => by
      have h3 := Drop1.near ht.2 hp
      have h4 := ht.2 u v hp
      rw [pushT_at h1 hab hne, if_neg (fun e => by rw [← e.1] at h3; omega), if_neg (fun e => by rw [← e.1, ← e.2] at h4; omega)]
      have := hf u v (prB_cons.2 (.inr hp))
      omega) (fun x hx => hr x (List.mem_cons_of_mem _ hx)) (by simpa using hz), cutS_push ha hb h1 hab hne]
    omega
/-- So much less goes over a cut, behind the rounds, as was pushed. -/
theorem Tr.cut {f t : Nat} {c0 : Caps} {n0 : Int} (h0 : PlayC c0) {S : Nat → Bool} (hf : S f = true) (ht : S t = false) {k : Nat} {c : Caps} {n : Int} {P : List Flw} (h : Tr f t c0 n0 k c n P) : cutS c S = cutS c0 S - (n0 - n) := by
  induction h with
  | nil => omega
  | @snoc k c n P L h h1 h2 h3 ih =>
    have hp := h.play h0
    obtain ⟨d, hw⟩ := h2.way hp.good h3
    have hpos := mnW_pos c L n h1 hw.cap
    obtain ⟨M, rfl⟩ := hw.head
    have hlast : (f :: M).getLast? = some t := by rw [List.getLast?_eq_getElem?]; exact hw.last
    rw [cutS_way (show 1 ≤ mnW c (f :: M) n by omega) M f t c hw.drop (fun x y hp => mnW_fit c _ n hp) (fun x hx => by have := hw.rng x hx; omega) hlast, ih, if_pos hf, ht]
    simp
    omega
theorem GoodC.cut0 {c : Caps} (h : GoodC c) (S : Nat → Bool) : 0 ≤ cutS c S := sumN_nonneg _ fun a _ => sumN_nonneg _ fun b _ => by
  split
  · exact h.ge a b
  · exact Int.le_refl _
theorem sumN_le {g : Nat → Int} {B : Int} : ∀ k, (∀ i, i < k → g i ≤ B) → sumN k g ≤ k * B
  | 0, _ => by simp [sumN]
  | k + 1, e => by
    rw [sumN]
    have h1 := sumN_le k (fun i hi => e i (by omega))
    have h2 := e k (by omega)
    rw [show ((k + 1 : Nat) : Int) * B = k * B + B by rw [Int.natCast_add, Int.add_mul]; simp]
    omega
theorem PlayC.cutB {c : Caps} (h : PlayC c) (S : Nat → Bool) : cutS c S ≤ 1271035441709056 := by
  have := sumN_le (g := fun a => sumN 17 fun b => if S a && !S b then c a b else 0) (B := ((17 : Nat) : Int) * 4398046511104) 17 fun a _ => sumN_le 17 fun b _ => by
    have h1 := h.sum a b
    have h2 := h.good.ge b a
    split <;> omega
  unfold cutS
  omega
/-- No more goes than over a cut. -/
theorem Tr.weak {f t : Nat} {c0 : Caps} {n0 : Int} (h0 : PlayC c0) {S : Nat → Bool} (hf : S f = true) (ht : S t = false) {k : Nat} {c : Caps} {n : Int} {P : List Flw} (h : Tr f t c0 n0 k c n P) : n0 - n ≤ cutS c0 S := by
  have := h.cut h0 hf ht
  have := (h.play h0).good.cut0 S
  omega
/-- Where no way is left the parties that do not reach the end are a cut with nothing left. -/
theorem IsShort.cut {c : Caps} {f t : Nat} (hg : GoodC c) (hf : mayP f = true) (ht : mayP t = true) (hne : f ≠ t) (h : IsShort c f t []) : ∃ S : Nat → Bool, S f = true ∧ S t = false ∧ cutS c S = 0 := by
  rcases h with ⟨_, h | h | h | ⟨d, hd, hd17⟩⟩ | ⟨_, _, _, d, hd, hlt, hw⟩
  · rw [hf] at h; cases h
  · rw [ht] at h; cases h
  · exact absurd h hne
  · refine ⟨fun p => decide (d p = 17), by simp [hd17], by simp [hd.top], ?_⟩
    refine sumN_zero _ fun a _ => sumN_zero _ fun b _ => ?_
    split
    · rename_i hs
      simp only [Bool.and_eq_true, decide_eq_true_eq, Bool.not_eq_true', decide_eq_false_iff_not] at hs
      have hge := hg.ge a b
      by_cases hp : 0 < c a b
      · have h1 := hd.step a b (by unfold edge; rw [hg.capOf]; simpa using hp)
        have h2 := hd.le b
        have h3 := hd.ins b (by omega)
        omega
      · omega
    · rfl
  · have := hw.head
    simp at this
/-- What goes: as much as is wanted, or as much as may at most. -/
theorem RouteOut.max {f t : Nat} {c0 : Caps} {P Q : List Flw} {n m got most : Int} (h0 : PlayC c0) (hf : mayP f = true) (ht : mayP t = true) (hne : f ≠ t) (hn : 0 ≤ n) (h : RouteOut f t c0 n P got) (g : RouteOut f t c0 m Q most) (hm : 4611686018427387904 ≤ m) : got = min n most := by
  obtain ⟨k, c, r, hT, hF, rfl⟩ := h
  obtain ⟨k2, c2, r2, hT2, hF2, rfl⟩ := g
  have l1 := hT.le h0 hn
  have l2 := hT2.le h0 (by omega)
  have hb := h0.cutB (fun p => decide (p = f))
  have w2 := hT2.weak h0 (S := fun p => decide (p = f)) (by simp) (by simp; exact fun e => hne e.symm)
  have hs2 : IsShort c2 f t [] := by
    rcases hF2 with h | h
    · omega
    · exact h
  obtain ⟨S, s1, s2, s3⟩ := hs2.cut (hT2.play h0).good hf ht hne
  have c2' := hT2.cut h0 s1 s2
  have w1 := hT.weak h0 s1 s2
  rcases hF with h | h
  · omega
  · obtain ⟨S', t1, t2, t3⟩ := h.cut (hT.play h0).good hf ht hne
    have c1' := hT.cut h0 t1 t2
    have w3 := hT2.weak h0 t1 t2
    omega
end Go.Proofs.Ytgobnamhdkbbeaa

/- flows.Route and Most of whatever want; what an Ask is in memory. -/
namespace Go.Proofs.Ytgobnamhdkbbeaa
open Go.RowKit
set_option linter.unusedSimpArgs false
set_option linter.unusedVariables false
theorem RouteOut.no {f t : Nat} {c : Caps} {want : Int} (h : want ≤ 0) : RouteOut f t c want [] 0 := ⟨0, c, want, .nil, .inl h, by omega⟩
theorem RouteOut.stuck {f t : Nat} {c : Caps} {want : Int} (h : mayP f = false ∨ mayP t = false ∨ f = t) : RouteOut f t c want [] 0 :=
  ⟨0, c, want, .nil, .inr (.inl ⟨rfl, by rcases h with h | h | h; exact .inl h; exact .inr (.inl h); exact .inr (.inr (.inl h))⟩), by omega⟩
theorem RouteOut.eq {f t : Nat} {c : Caps} {n got got' : Int} {P P' : List Flw} (h : RouteOut f t c n P got) (g : RouteOut f t c n P' got') : P = P' ∧ got = got' := by
  obtain ⟨k, c1, r, h1, h2, rfl⟩ := h
  obtain ⟨k', c1', r', g1, g2, rfl⟩ := g
  obtain ⟨_, rfl, rfl⟩ := h1.fin h2 g1 g2
  exact ⟨rfl, rfl⟩
/-- The most that goes does not hang on which great number is asked for. -/
theorem RouteOut.mosts {f t : Nat} {c : Caps} {P Q : List Flw} {a b : Int} (h0 : PlayC c) (h : RouteOut f t c 4611686018427387904 P a) (g : RouteOut f t c 9223372036854775807 Q b) : a = b := by
  by_cases hs : mayP f = false ∨ mayP t = false ∨ f = t
  · rw [(h.eq (RouteOut.stuck hs)).2, (g.eq (RouteOut.stuck hs)).2]
  · have hf : mayP f = true := by
      cases e : mayP f
      · exact absurd (.inl e) hs
      · rfl
    have ht : mayP t = true := by
      cases e : mayP t
      · exact absurd (.inr (.inl e)) hs
      · rfl
    have hne : f ≠ t := fun e => hs (.inr (.inr e))
    have h1 := RouteOut.max h0 hf ht hne (by omega) h g (by omega)
    obtain ⟨k2, c2, r2, hT2, hF2, rfl⟩ := g
    have w2 := hT2.weak h0 (S := fun p => decide (p = f)) (by simp) (by simp; exact fun e => hne e.symm)
    have hb := h0.cutB (fun p => decide (p = f))
    have l2 := hT2.le h0 (by omega)
    omega
theorem Tr.lenP {f t : Nat} {c0 c : Caps} {n0 n : Int} {k : Nat} {P : List Flw} (h0 : PlayC c0) (h : Tr f t c0 n0 k c n P) : P.length ≤ 86240 := by
  have := h.pot h0
  omega
theorem RouteOut.len {f t : Nat} {c : Caps} {n got : Int} {P : List Flw} (h0 : PlayC c) (h : RouteOut f t c n P got) : P.length ≤ 86240 := by
  obtain ⟨k, c1, r, h1, _⟩ := h
  exact h1.lenP h0
section
variable {W w : World} {l : List Thing} {p : Nat}
theorem routeA_H (c0 : Caps) (f t : Nat) (want : Int) (hf : f ≤ 255) (ht : t ≤ 255) (h1 : want ≤ 9223372036854775807) (hc : PlayC c0) (m1 : Gr p c0 ∈ l) (H : Heap W l w) :
    Calls Try.prog 59 #[.pointer (some ⟨p, 0, none⟩), .int .u8 (f : Int), .int .u8 (t : Int), .int .i64 want] w fun e w' => ∃ v P got, e = .returned (.tuple #[v, .int .i64 got]) ∧ RouteOut f t c0 want P got ∧ Heap W (OwnT 32 3 v P.length (flwL P) :: l) w' := by
  by_cases hw : 0 < want
  · exact route_H c0 f t want hf ht hw h1 hc m1 H
  · refine (route_no (some ⟨p, 0, none⟩) f t want (by omega) H).mono ?_
    rintro e w' ⟨rfl, H⟩
    exact ⟨_, [], 0, rfl, .no (by omega), (H.nilRow 32 3).slide⟩
theorem routeN_H (f t : Nat) (want : Int) (hf : f ≤ 255) (ht : t ≤ 255) (h1 : want ≤ 9223372036854775807) (H : Heap W l w) :
    Calls Try.prog 59 #[.pointer none, .int .u8 (f : Int), .int .u8 (t : Int), .int .i64 want] w fun e w' => e = .returned (.tuple #[.slice none 0 0, .int .i64 0]) ∧ Heap W l w' := by
  by_cases hw : 0 < want
  · exact route_nil f t want hf ht hw h1 H
  · exact route_no none f t want (by omega) H
end
end Go.Proofs.Ytgobnamhdkbbeaa

/- Flows: the pushes of a route, done one behind the other (plain). -/
namespace Go.Proofs.Ytgobnamhdkbbeaa
open Go.RowKit
set_option linter.unusedSimpArgs false
set_option linter.unusedVariables false
def pushL (c : Caps) : List Flw → Caps
  | [] => c
  | x :: P => pushL (pushT c x.f x.t x.n) P
/-- Each push may be done. -/
def Fits (c : Caps) : List Flw → Prop
  | [] => True
  | x :: P => (1 ≤ x.n ∧ x.n ≤ c x.f x.t ∧ x.f ≤ 16 ∧ x.t ≤ 16) ∧ Fits (pushT c x.f x.t x.n) P
theorem pushL_append : ∀ (P Q : List Flw) (c : Caps), pushL c (P ++ Q) = pushL (pushL c P) Q
  | [], _, _ => rfl
  | x :: P, Q, c => by rw [List.cons_append, pushL, pushL_append P Q, pushL]
theorem Fits.append : ∀ {P Q : List Flw} {c : Caps}, Fits c P → Fits (pushL c P) Q → Fits c (P ++ Q)
  | [], _, _, _, h => h
  | x :: P, Q, c, h, g => ⟨h.1, Fits.append h.2 g⟩
theorem Fits.split : ∀ {P Q : List Flw} {c : Caps}, Fits c (P ++ Q) → Fits c P ∧ Fits (pushL c P) Q
  | [], _, _, h => ⟨trivial, h⟩
  | x :: P, Q, c, h => ⟨⟨h.1, (Fits.split h.2).1⟩, (Fits.split h.2).2⟩
theorem psW_pushL : ∀ (L : List Nat) (c : Caps) (m : Int), psW c L m = pushL c (flW L m)
  | [], c, m => rfl
  | [_], c, m => rfl
  | a :: b :: L, c, m => by rw [psW, flW, pushL, psW_pushL (b :: L)]
theorem pushL_play : ∀ (P : List Flw) {c : Caps}, PlayC c → PlayC (pushL c P)
  | [], c, h => h
  | x :: P, c, h => by rw [pushL]; exact pushL_play P (h.push _ _ _)
theorem flW_fits {d : Nat → Nat} {m : Int} (h1 : 1 ≤ m) : ∀ (L : List Nat) (c : Caps), Drop1 d L → (∀ x y, prB L x y = true → m ≤ c x y) → (∀ x ∈ L, x ≤ 16) → Fits c (flW L m)
  | [], c, _, _, _ => trivial
  | [_], c, _, _, _ => trivial
  | a :: b :: L, c, hd, hf, hr => by
    have ht := hd.tail
    have hab := hf a b (prB_cons.2 (.inl ⟨rfl, rfl⟩))
    have hne : a ≠ b := fun e => by rw [e] at ht; omega
    refine ⟨⟨h1, hab, hr a List.mem_cons_self, hr b (List.mem_cons_of_mem _ List.mem_cons_self)⟩, flW_fits h1 (b :: L) _ ht.2 (fun u v hp => ?_) (fun x hx => hr x (List.mem_cons_of_mem _ hx))⟩
    have h3 := Drop1.near ht.2 hp
    have h4 := ht.2 u v hp
    show m ≤ pushT c a b m u v
    rw [pushT_at h1 hab hne, if_neg (fun e => by rw [← e.1] at h3; omega), if_neg (fun e => by rw [← e.1, ← e.2] at h4; omega)]
    have := hf u v (prB_cons.2 (.inr hp))
    omega
/-- What a party gets by pushes. -/
def netP (p : Nat) : List Flw → Int
  | [] => 0
  | x :: P => (if x.t = p then x.n else 0) - (if x.f = p then x.n else 0) + netP p P
theorem netP_append (p : Nat) : ∀ (P Q : List Flw), netP p (P ++ Q) = netP p P + netP p Q
  | [], Q => by simp [netP]
  | x :: P, Q => by rw [List.cons_append, netP, netP_append p P Q, netP]; omega
theorem netP_way (p : Nat) (m : Int) : ∀ (L : List Nat) (a z : Nat), (a :: L).getLast? = some z → netP p (flW (a :: L) m) = (if z = p then m else 0) - (if a = p then m else 0)
  | [], a, z, h => by
    simp at h
    subst h
    simp [flW, netP]
  | b :: L, a, z, h => by
    show (if b = p then m else 0) - (if a = p then m else 0) + netP p (flW (b :: L) m) = _
    rw [netP_way p m L b z (by simpa using h)]
    omega
section
variable {f t : Nat} {c0 : Caps} {n0 : Int}
theorem WayP.ends {c : Caps} {d : Nat → Nat} {L : List Nat} (h : WayP c f t d L) : ∃ M, L = f :: M ∧ (f :: M).getLast? = some t := by
  obtain ⟨M, rfl⟩ := h.head
  refine ⟨M, rfl, ?_⟩
  have := h.last
  rwa [← List.getLast?_eq_getElem?] at this
theorem Tr.done (h0 : PlayC c0) {k : Nat} {c : Caps} {n : Int} {P : List Flw} (h : Tr f t c0 n0 k c n P) : pushL c0 P = c ∧ Fits c0 P ∧ ∀ p, netP p P = (if t = p then n0 - n else 0) - (if f = p then n0 - n else 0) := by
  induction h with
  | nil => exact ⟨rfl, trivial, fun p => by simp [netP]⟩
  | @snoc k c n P L h h1 h2 h3 ih =>
    obtain ⟨i1, i2, i3⟩ := ih
    have hp := h.play h0
    obtain ⟨d, hw⟩ := h2.way hp.good h3
    have hm := mnW_pos c L n h1 hw.cap
    refine ⟨by rw [pushL_append, i1, psW_pushL], i2.append (by rw [i1]; exact flW_fits (by omega) L c hw.drop (fun x y hxy => mnW_fit c L n hxy) (fun x hx => (hw.rng x hx).2)), fun p => ?_⟩
    obtain ⟨M, rfl, hl⟩ := hw.ends
    rw [netP_append, i3, netP_way p _ M f t hl]
    split <;> split <;> omega
theorem Fits.at {c : Caps} {P : List Flw} {i : Nat} {x : Flw} (h : Fits c P) (hx : P[i]? = some x) : (1 ≤ x.n ∧ x.n ≤ pushL c (P.take i) x.f x.t ∧ x.f ≤ 16 ∧ x.t ≤ 16) ∧ pushL c (P.take (i + 1)) = pushT (pushL c (P.take i)) x.f x.t x.n ∧ ∀ p, netP p (P.take (i + 1)) = netP p (P.take i) - (if x.f = p then x.n else 0) + (if x.t = p then x.n else 0) := by
  have hlt : i < P.length := by
    apply Classical.byContradiction
    intro hn
    rw [List.getElem?_eq_none (by omega)] at hx
    cases hx
  have e1 : P.take (i + 1) = P.take i ++ [x] := by
    rw [List.take_add_one, hx]; rfl
  have e2 : P = P.take i ++ (x :: P.drop (i + 1)) := by
    have h3 : P[i]'hlt = x := by rw [List.getElem?_eq_getElem hlt] at hx; exact Option.some.inj hx
    rw [← h3, ← List.drop_eq_getElem_cons hlt, List.take_append_drop]
  rw [e2] at h
  refine ⟨h.split.2.1, by rw [e1, pushL_append]; rfl, fun p => by rw [e1, netP_append]; simp [netP]; omega⟩
theorem netP_bnd {c : Caps} (p : Nat) : ∀ {P : List Flw} {c : Caps}, PlayC c → Fits c P → -(P.length * 4398046511104 : Int) ≤ netP p P ∧ netP p P ≤ P.length * 4398046511104
  | [], c, _, _ => by simp [netP]
  | x :: P, c, h0, h => by
    have ih := netP_bnd (c := c) p (h0.push x.f x.t x.n) h.2
    obtain ⟨h1, h2, _⟩ := h.1
    have h3 := h0.sum x.f x.t
    have h4 := h0.good.ge x.t x.f
    rw [netP, List.length_cons]
    push_cast
    split <;> split <;> constructor <;> omega
theorem Fits.take {c : Caps} {P : List Flw} (h : Fits c P) (i : Nat) : Fits c (P.take i) := by
  rw [← List.take_append_drop i P] at h
  exact h.split.1
theorem RouteOut.done {c : Caps} {want got : Int} {P : List Flw} (h0 : PlayC c) (h : RouteOut f t c want P got) : Fits c P ∧ (0 ≤ got) ∧ ∀ p, netP p P = (if t = p then got else 0) - (if f = p then got else 0) := by
  obtain ⟨k, c1, r, h1, h2, rfl⟩ := h
  obtain ⟨d1, d2, d3⟩ := h1.done h0
  by_cases hw : want ≤ 0
  · cases h1 with
    | nil => exact ⟨trivial, by omega, fun p => by simp [netP]⟩
    | snoc q1 q2 _ _ => have := q1.top h0; omega
  · have := h1.le h0 (by omega)
    refine ⟨d2, by omega, fun p => ?_⟩
    rw [d3]
    split <;> split <;> omega
/-- Behind a route: what is left over a cut, and where less goes than was wanted no way is left. -/
theorem RouteOut.left {c : Caps} {want got : Int} {P : List Flw} (h0 : PlayC c) (h : RouteOut f t c want P got) : (∀ S : Nat → Bool, S f = true → S t = false → cutS c S = got + cutS (pushL c P) S) ∧ (got < want → IsShort (pushL c P) f t []) ∧ got ≤ Max.max want 0 := by
  obtain ⟨k, c1, r, h1, h2, rfl⟩ := h
  obtain ⟨d1, d2, d3⟩ := h1.done h0
  rw [d1]
  by_cases hw : want ≤ 0
  · cases h1 with
    | nil => exact ⟨fun S _ _ => by omega, fun h => by omega, by omega⟩
    | snoc q1 q2 _ _ => have := q1.top h0; omega
  · have hle := h1.le h0 (by omega)
    refine ⟨fun S hf ht => ?_, fun h => ?_, by omega⟩
    · have := h1.cut h0 hf ht
      omega
    · rcases h2 with h2 | h2
      · omega
      · exact h2
/-- By what went in one ask, less goes in the next one. -/
theorem RouteOut.twice {c : Caps} {want got most most2 : Int} {P Q R : List Flw} (h0 : PlayC c) (hf : mayP f = true) (ht : mayP t = true) (hne : f ≠ t) (h : RouteOut f t c want P got) (hm : RouteOut f t c 9223372036854775807 Q most) (hm2 : RouteOut f t (pushL c P) 9223372036854775807 R most2) : most2 = most - got := by
  have h1 := pushL_play P h0
  obtain ⟨l1, _, _⟩ := h.left h0
  obtain ⟨m1, m2, _⟩ := hm.left h0
  obtain ⟨n1, n2, _⟩ := hm2.left h1
  have b0 := h0.cutB (fun p => decide (p = f))
  have b1 := h1.cutB (fun p => decide (p = f))
  have s1 : (fun p => decide (p = f)) f = true := by simp
  have s2 : (fun p => decide (p = f)) t = false := by simp; exact fun e => hne e.symm
  have g1 := (pushL_play Q h0).good
  have g2 := (pushL_play R h1).good
  have z0 := g1.cut0 (fun p => decide (p = f))
  have z1 := g2.cut0 (fun p => decide (p = f))
  have a1 := m1 (fun p => decide (p = f)) s1 s2
  have a2 := n1 (fun p => decide (p = f)) s1 s2
  obtain ⟨S, x1, x2, x3⟩ := (m2 (by omega)).cut g1 hf ht hne
  obtain ⟨T, y1, y2, y3⟩ := (n2 (by omega)).cut g2 hf ht hne
  have e1 := m1 S x1 x2
  have e2 := l1 S x1 x2
  have e3 := n1 S x1 x2
  have e4 := g2.cut0 S
  have e5 := m1 T y1 y2
  have e6 := l1 T y1 y2
  have e7 := n1 T y1 y2
  have e8 := g1.cut0 T
  omega
end
end Go.Proofs.Ytgobnamhdkbbeaa

/- countinghouselaw05.lives. -/
namespace Go.Proofs.Ytgobnamhdkbbeaa
open Go.RowKit
set_option linter.unusedSimpArgs false
set_option linter.unusedVariables false
section
variable {ops : Array Oper} {rest : List Oper} {a : Act} {w W : World} {l : List Thing} {Q : Exit → Act → World → Prop}
theorem wpl_loadRdR0 {T n : Nat} {z : Array Value} {dst : Option Tmp} {ty : TypeId} {pos : String} {after : Array Edge} {guard : Option (Nat × Bool)} {x : Operand} {b o : Nat} (RT : RowTy T n z) (hw : Region.wanted ⟨dst, .load T x, ty, pos, after, guard⟩ (yielded ops a.tmps) = true) (hx : a.eval x = .pointer (some ⟨b, o, none⟩))
    {xs : List Value} {c1 : Array Value} (R : Rd w (some ⟨b, o, none⟩) xs) (hn : 0 + n ≤ xs.length) (h0 : 0 < n) (hv : ((xs.drop 0).take n).toArray = c1) (h : wpList Try.prog ops Q rest (a.put dst (.agg c1)) w) : wpList Try.prog ops Q (⟨dst, .load T x, ty, pos, after, guard⟩ :: rest) a w :=
  wpl_loadRdR RT hw hx R rfl hn h0 hv h
end
section
variable {W w : World} {l : List Thing}
set_option maxRecDepth 100000
set_option maxHeartbeats 1000000
def lc0 : Caps := upd2 (upd2 zeroC 1 2 5) 2 1 1
def lc1 : Caps := pushC lc0 1 2 3
def lc2 : Caps := pushC lc1 2 1 4
theorem lc2_edges : edgesOf lc2 = [⟨1, 2, 6⟩] := by kernel_rfl
theorem lc_row : (((flwL [⟨1, 2, 6⟩]).drop 0).take 3).toArray = #[.int .u8 1, .int .u8 2, .int .i64 6] := rfl
theorem flw2 : ([.int .u8 1, .int .u8 2, .int .i64 5, .int .u8 2, .int .u8 1, .int .i64 1] : List Value) = flwL [⟨1, 2, 5⟩, ⟨2, 1, 1⟩] := rfl
theorem lives05_H (H : Heap W l w) : Calls Try.prog 12 #[] w fun e w' => e = .returned (.bool true) ∧ Heap W l w' := by
  go_enter Try.func12, Try.ntmps12
  go_wp2_with fail
  have C := new_H (some ⟨w.heap.size, 0, none⟩) 2 2 [⟨1, 2, 5⟩, ⟨2, 1, 1⟩] rfl (by omega) (by simp [FlwOk]) (fun w' H' => H'.celRd List.mem_cons_self) (H.alloc #[.int .u8 1, .int .u8 2, .int .i64 5, .int .u8 2, .int .u8 1, .int .i64 1] 32)
  clear H
  refine C.mono ?_
  clear C
  rw [show newG [⟨1, 2, 5⟩, ⟨2, 1, 1⟩] = some lc0 from rfl]
  rintro e w1 ⟨p, rfl, H⟩
  replace H := H.drop (.there .here)
  go_wp2_with fail
  have C := push_ok (p := p) (c := lc0) 1 2 3 (by decide) (by decide) (by decide) (by decide) H (by decide) (by decide) (by decide) (by decide) (by decide)
  clear H
  refine C.mono ?_
  clear C
  rintro e w1 ⟨rfl, H⟩
  go_wp2_with fail
  rw [show pushC lc0 1 2 3 = lc1 from rfl] at H
  have C := cap_H (W := W) (l := Gr p lc1 :: l) (p := p) (c := lc1) 1 2 (by decide) (by decide) List.mem_cons_self _ H
  clear H
  refine C.mono ?_
  clear C
  rintro e w1 ⟨rfl, H⟩
  rw [show capOf lc1 1 2 = 2 by decide]
  go_wp2_with fail
  have C := cap_H (W := W) (l := Gr p lc1 :: l) (p := p) (c := lc1) 2 1 (by decide) (by decide) List.mem_cons_self _ H
  clear H
  refine C.mono ?_
  clear C
  rintro e w1 ⟨rfl, H⟩
  rw [show capOf lc1 2 1 = 4 by decide]
  go_wp2_with fail
  have C := push_route (W := W) (l := Gr p lc1 :: l) (p := p) (c := lc1) 1 2 3 (by decide) (by decide) List.mem_cons_self (by decide) (by decide) _ H
  clear H
  refine C.mono ?_
  clear C
  rintro e w1 ⟨rfl, H⟩
  go_wp2_with fail
  have C := push_ok (p := p) (c := lc1) 2 1 4 (by decide) (by decide) (by decide) (by decide) H (by decide) (by decide) (by decide) (by decide) (by decide)
  clear H
  refine C.mono ?_
  clear C
  rintro e w1 ⟨rfl, H⟩
  go_wp2_with fail
  rw [show pushC lc1 2 1 4 = lc2 from rfl] at H
  have C := edges_H H List.mem_cons_self
  clear H
  refine C.mono ?_
  clear C
  rintro e w1 hP
  rw [lc2_edges] at hP
  rcases hP with ⟨h0, _⟩ | ⟨_, g, cc, rfl, _, H⟩
  · cases h0
  have HR := Lib.hid (H.slRd List.mem_cons_self)
  go_wp2_with (first
    | go_skip
    | ((with_reducible show wpList _ _ _ (_ :: _) _ _); (with_reducible apply wpl_loadRdR0 row_flow); (· rfl); (· rfl); (· exact HR.out); (· decide); (· decide); (· exact lc_row); (simp only [Act.put, List.setIfInBounds_toArray, List.set_cons_zero, List.set_cons_succ])))
  go_ret
  exact ⟨rfl, H.tail.tail⟩
end
end Go.Proofs.Ytgobnamhdkbbeaa

/- Worlds that are others grown: some draws on, some blocks behind. cmp.Compare, cmp.Or. -/
namespace Go.Proofs.Ytgobnamhdkbbeaa
open Go.RowKit Go.Sort
set_option linter.unusedSimpArgs false
set_option linter.unusedVariables false
def Grw (w w' : World) : Prop := ∃ q os, w' = grow (w.drewN q) os
theorem Grw.refl (w : World) : Grw w w := ⟨0, #[], by rw [grow_empty]; rfl⟩
theorem Grw.trans {a b c : World} (h : Grw a b) (k : Grw b c) : Grw a c := by
  obtain ⟨q, os, rfl⟩ := h
  obtain ⟨q', os', rfl⟩ := k
  exact ⟨q + q', os ++ os', by rw [show (grow (a.drewN q) os).drewN q' = grow ((a.drewN q).drewN q') os from rfl, grow_grow]; simp [World.drewN, grow, Nat.add_assoc]⟩
theorem Grw.alloc {a b : World} (h : Grw a b) (o : Obj) : Grw a (b.alloc o) := h.trans ⟨0, #[o], by rw [alloc_eq_grow]; rfl⟩
theorem Grw.drew {a b : World} (h : Grw a b) : Grw a b.drew := h.trans ⟨1, #[], by rw [grow_empty]; rfl⟩
theorem Grw.old {a b : World} (h : Grw a b) {k : Nat} (hk : k < a.heap.size) : b.heap[k]? = a.heap[k]? := by
  obtain ⟨q, os, rfl⟩ := h
  exact heap_grow_old _ _ hk
theorem Grw.size {a b : World} (h : Grw a b) : a.heap.size ≤ b.heap.size := by
  obtain ⟨q, os, rfl⟩ := h
  simp [grow, World.drewN]
theorem Grw.blk {a b : World} (h : Grw a b) {p : Nat} {o : Obj} (hb : blk a p = some o) : blk b p = some o := (h.old (Array.getElem?_eq_some_iff.1 hb).1).trans hb
theorem Grw.below {a b : World} (h : Grw a b) : Below a.heap.size a b := by
  obtain ⟨q, os, rfl⟩ := h
  exact ⟨rfl, rfl, rfl, by simp [grow, World.drewN], fun k hk => heap_grow_old _ _ hk⟩
open Classical in
noncomputable def World.gr (w d : World) : World := if Grw w d then d else w
theorem gr_grw (w d : World) : Grw w (World.gr w d) := by
  unfold World.gr
  split
  · assumption
  · exact .refl _
theorem gr_of {w w' : World} (h : Grw w w') : ∃ d, w' = World.gr w d := ⟨w', by unfold World.gr; rw [if_pos h]⟩
/-- Called so it answers v, in whatever world, which is then some draws on, with blocks behind. -/
def AnsG (f : FuncId) (args : Array Value) (v : Value) : Prop := ∀ w, Calls Try.prog f args w fun e w' => e = .returned v ∧ Grw w w'
theorem AnsG.quiet {f : FuncId} {args : Array Value} {v : Value} {W d : World} (h : AnsG f args v) : Calls Try.prog f args (World.gr W d) fun e w'' => e = .returned v ∧ ∃ m, w'' = World.gr W m :=
  (h _).mono fun _ _ ⟨he, hg⟩ => ⟨he, gr_of ((gr_grw W d).trans hg)⟩
theorem AnsG.ans {f : FuncId} {args : Array Value} {v : Value} (h : AnsG f args v) : Ans f args v := fun w => (h w).mono fun _ _ ⟨he, hg⟩ => ⟨he, hg.below⟩
section
variable {ops : Array Oper} {rest : List Oper} {a : Act} {w W : World} {Q : Exit → Act → World → Prop}
theorem wp_region_G_tail {id : Nat} {lo : List Oper} (n : Nat) (hm : Try.prog.follows .mixedOrders = true) (hB : Region.lexTailB .any lo.toArray n = true)
    (h : wpQuiet Try.prog lo.toArray (fun w' => ∃ d, w' = World.gr W d) (fun a' => ∀ w', Grw W w' → wpList Try.prog lo.toArray Q (lo.drop n) a' w') (lo.take n) a) : (Code.region id lo.toArray true).wp Try.prog Q a W :=
  wp_region_tail (C := fun w' => ∃ d, w' = World.gr W d) n hm hB (gr_of (Grw.refl W).drew) (wpQuiet_mono (fun _ h w' hw' => by obtain ⟨d, rfl⟩ := hw'; exact h _ (gr_grw _ _)) _ _ h)
theorem wp_region_G {id : Nat} {lo : List Oper} (hm : Try.prog.follows .mixedOrders = true) (hB : Region.lexB .any lo.toArray = true)
    (h : wpQuiet Try.prog lo.toArray (fun w' => ∃ d, w' = World.gr W d) (fun a' => ∀ w', Grw W w' → Q .normal a' w') lo a) : (Code.region id lo.toArray true).wp Try.prog Q a W :=
  wp_region_quiet (C := fun w' => ∃ d, w' = World.gr W d) hm hB (gr_of (Grw.refl W).drew) (wpQuiet_mono (fun _ h w' hw' => by obtain ⟨d, rfl⟩ := hw'; exact h _ (gr_grw _ _)) _ _ (by simpa using h))
theorem wpQ_loadCG {T : TypeId} {dst : Option Tmp} {ty : TypeId} {pos : String} {after : Array Edge} {guard : Option (Nat × Bool)} {x : Operand} {b off : Nat} {K : Act → Prop} (CT : CellTy T) (hw : Region.wanted ⟨dst, .load T x, ty, pos, after, guard⟩ (yielded ops a.tmps) = true) (hx : a.eval x = .pointer (some ⟨b, off, none⟩))
    {c : Array Value} {v : Value} {t : TypeId} (hb : blk W b = some (.cells c t (0, 0))) (hv : c[off]? = some v)
    (h : wpQuiet Try.prog ops (fun w' => ∃ d, w' = World.gr W d) K rest (a.put dst v)) : wpQuiet Try.prog ops (fun w' => ∃ d, w' = World.gr W d) K (⟨dst, .load T x, ty, pos, after, guard⟩ :: rest) a := by
  refine BigFrame.wpQuiet_want hw fun K hK => ⟨_, ?_, hK _ h⟩
  rintro _ ⟨d, rfl⟩
  unfold Oper.quietAt execOp
  simp only [hx, Sem.run_bind, run_loadC CT ((gr_grw W d).blk hb) hv]
  exact ⟨rfl, rfl⟩
theorem wpQ_loadRG {T n : Nat} {z : Array Value} {dst : Option Tmp} {ty : TypeId} {pos : String} {after : Array Edge} {guard : Option (Nat × Bool)} {x : Operand} {b off : Nat} {K : Act → Prop} (RT : RowTy T n z) (hw : Region.wanted ⟨dst, .load T x, ty, pos, after, guard⟩ (yielded ops a.tmps) = true) (hx : a.eval x = .pointer (some ⟨b, off, none⟩))
    {c c1 : Array Value} {t : TypeId} (hb : blk W b = some (.cells c t (0, 0))) (hn : off + n ≤ c.size) (he : c.extract off (off + n) = c1)
    (h : wpQuiet Try.prog ops (fun w' => ∃ d, w' = World.gr W d) K rest (a.put dst (.agg c1))) : wpQuiet Try.prog ops (fun w' => ∃ d, w' = World.gr W d) K (⟨dst, .load T x, ty, pos, after, guard⟩ :: rest) a := by
  subst he
  refine BigFrame.wpQuiet_want hw fun K hK => ⟨_, ?_, hK _ h⟩
  rintro _ ⟨d, rfl⟩
  unfold Oper.quietAt execOp
  simp only [hx, Sem.run_bind, run_loadR RT ((gr_grw W d).blk hb) hn]
  exact ⟨rfl, rfl⟩
end
/-- The first that is not 0. -/
def orL : List Int → Int
  | [] => 0
  | x :: xs => if x ≠ 0 then x else orL xs
set_option maxRecDepth 100000
set_option maxHeartbeats 1000000
theorem or_C (b n c : Nat) (xs : List Int) (hl : xs.length = n) (hn : n ≤ 1000) (w : World) (R : Rd w (some ⟨b, 0, none⟩) (xs.map (Value.int .i64))) :
    Calls Try.prog 84 #[.slice (some ⟨b, 0, none⟩) n c] w fun e w' => e = .returned (.int .i64 (orL xs)) ∧ w' = w := by
  have HL := Lib.hid hl
  have HR := Lib.hid R
  clear R hl
  go_enter Try.func84, Try.ntmps84
  go_wp2_with (go_skip)
  have hstart : orL xs = orL (xs.drop 0) := rfl
  go_loopw [8] (fun i wr => ∃ k : Nat, k ≤ n ∧ i = .int .i64 k ∧ orL xs = orL (xs.drop k) ∧ wr = w) (fun i _ => n - (intOf i).toNat)
  case atStart => exact ⟨0, Nat.zero_le _, rfl, hstart, rfl⟩
  case round =>
    obtain ⟨k, hk, rfl, hO, rfl⟩ := hrel
    clear hstart
    by_cases hlt : k < n
    · have hkx : k < xs.length := by rw [HL.out]; exact hlt
      have hc : wr.cell? ⟨b, k, none⟩ = some (.int .i64 xs[k]) := by
        have := HR.out.get (i := k) (by simpa using hkx)
        simpa using this
      rw [List.drop_eq_getElem_cons hkx] at hO
      generalize xs[k] = x at *
      by_cases h0 : x = 0
      · subst h0
        have HO := Lib.hid (show orL xs = orL (xs.drop (k + 1)) from hO.trans (by rw [orL, if_neg (fun h => h rfl)]))
        clear hO
        go_wp2_with (go_skip)
        refine ⟨⟨k + 1, by omega, by go_num, HO.out, by trivial⟩, ?measure⟩
        case measure => simp [intOf]; omega
      · have HO := Lib.hid (show orL xs = x from hO.trans (by rw [orL, if_pos h0]))
        clear hO
        have e0 : (x != 0) = true := by simpa using h0
        go_wp2_with (go_skip)
        go_ret
        exact ⟨by rw [HO.out]; rfl, rfl⟩
    · obtain rfl : k = n := by omega
      rw [List.drop_of_length_le (by rw [HL.out]; omega)] at hO
      have HO := Lib.hid (show orL xs = 0 from hO)
      clear hO
      go_wp2_with (go_skip)
      go_ret
      exact ⟨by rw [HO.out]; rfl, rfl⟩
end Go.Proofs.Ytgobnamhdkbbeaa

/- Maps as things: what they hold known up to the order of their entries. -/
namespace Go.Proofs.Ytgobnamhdkbbeaa
open Go.RowKit
set_option linter.unusedSimpArgs false
set_option linter.unusedVariables false
set_option maxRecDepth 100000

/-- What the laws need of a kind of keys. -/
structure KeyTy (k : TypeId) (KS : Value → Prop) : Prop where
  check : ∀ (w : World) (em : Bool) {v : Value}, KS v → (Instr.checkKey em 10000 k v).run Try.prog w = .ok () w
  find : ∀ (w : World) {x : Value}, KS x → ∀ es : List MapEntry, (∀ e ∈ es, KS e.key) →
    ((Instr.findKey k x es).run Try.prog w = .ok none w ∧ ∀ e ∈ es, e.key ≠ x) ∨ ∃ j e, (Instr.findKey k x es).run Try.prog w = .ok (some (j, e.val)) w ∧ es[j]? = some e ∧ e.key = x
  stays : ∀ (w : World) {v : Value}, KS v → (Instr.keyThatStays v v).run Try.prog w = .ok v w
theorem KeyTy.of {k : TypeId} (K : WideMaps.KeyLaw Try.prog k) : KeyTy k (fun v => ∃ l, keyOf Try.prog k v = some l) where
  check w em _ h := by obtain ⟨l, h⟩ := h; exact K.check w em h
  find w _ h es hes := by obtain ⟨l, h⟩ := h; exact K.find w h es hes
  stays w _ h := by obtain ⟨l, h⟩ := h; exact K.stays w h

def kvOf (e : MapEntry) : Value × Value := (e.key, e.val)
/-- These entries are those of L, in whatever order. -/
structure HoldsM (KS : Value → Prop) (es : Array MapEntry) (clock : Nat) (L : List (Value × Value)) : Prop where
  st : MapKept.Stamped es clock
  perm : (es.toList.map kvOf).Perm L
  ks : ∀ e ∈ es.toList, KS e.key
/-- A map in a block. -/
def MapT (KS : Value → Prop) (p : Nat) (L : List (Value × Value)) : Thing := ⟨some p, fun w => ∃ es clock, w.heap[p]? = some (.map es clock) ∧ HoldsM KS es clock L, fun _ _ h ⟨es, c, hb, hh⟩ => ⟨es, c, (h p rfl).trans hb, hh⟩⟩
/-- A map's block, known whole. -/
def MapX (p : Nat) (es : Array MapEntry) (clock : Nat) : Thing := ⟨some p, fun w => w.heap[p]? = some (.map es clock), fun _ _ h hb => (h p rfl).trans hb⟩
/-- An iterator over the map in block p. -/
def IterX (r p since : Nat) (seen : Array Nat) (c0 : Nat) : Thing := ⟨some r, fun w => w.heap[r]? = some (.mapIter (some p) since seen c0), fun _ _ h hb => (h r rfl).trans hb⟩

/-- What m[key] is: b: whether it is there. -/
def Look (L : List (Value × Value)) (key z : Value) (b : Bool) (r : Value) : Prop := (b = true ∧ (key, r) ∈ L) ∨ (b = false ∧ r = z ∧ ∀ x ∈ L, x.1 ≠ key)
/-- L' is L behind m[key] = v. -/
def PutM (L : List (Value × Value)) (key v : Value) (L' : List (Value × Value)) : Prop := ∃ rest, (∀ x ∈ rest, x.1 ≠ key) ∧ (L.Perm rest ∨ ∃ v0, L.Perm ((key, v0) :: rest)) ∧ L'.Perm ((key, v) :: rest)
/-- L' is L behind delete(m, key). -/
def DelM (L : List (Value × Value)) (key : Value) (L' : List (Value × Value)) : Prop := ∃ rest, (∀ x ∈ rest, x.1 ≠ key) ∧ (L.Perm rest ∨ ∃ v0, L.Perm ((key, v0) :: rest)) ∧ L'.Perm rest

theorem Repl.of_mem {l : List Thing} {x : Thing} (x' : Thing) (m : x ∈ l) : ∃ l', Repl l x x' l' := by
  induction l with
  | nil => cases m
  | cons y l ih =>
    rcases List.mem_cons.1 m with rfl | m
    · exact ⟨_, .here⟩
    · obtain ⟨l', hl'⟩ := ih m
      exact ⟨_, .there hl'⟩
theorem Repl.same {l l1 l2 : List Thing} {x x' : Thing} (h1 : Repl l x x' l1) (h2 : Repl l x x' l2) : l1.Perm l2 := by
  obtain ⟨r, a1, b1⟩ := h1.perm
  obtain ⟨s, a2, b2⟩ := h2.perm
  exact b1.trans (((a1.symm.trans a2).cons_inv.cons _).trans b2.symm)
theorem perm_erase {α : Type} : ∀ (l : List α) (j : Nat) (h : j < l.length), l.Perm (l[j] :: l.eraseIdx j)
  | [], j, h => by simp at h
  | x :: l, 0, _ => by simp
  | x :: l, j + 1, h => by
    simp only [List.getElem_cons_succ, List.eraseIdx_cons_succ]
    exact ((perm_erase l j (by simpa using h)).cons x).trans (.swap _ _ _)
section
variable {KS : Value → Prop} {es : Array MapEntry} {clock p : Nat} {L L' : List (Value × Value)} {w : World} {t k e : TypeId}
theorem HoldsM.size (h : HoldsM KS es clock L) : es.size = L.length := by
  have := h.perm.length_eq
  simpa using this
theorem HoldsM.keys (h : HoldsM KS es clock L) : (L.map (·.1)).Nodup := by
  have h3 := ((MapKept.stamped_iff es clock).1 h.st).2.2
  have : ((es.toList.map kvOf).map (·.1)).Nodup := by
    unfold List.Nodup
    rw [List.pairwise_map, List.pairwise_map]
    exact h3
  exact (h.perm.map (·.1)).nodup_iff.1 this
theorem HoldsM.entry (h : HoldsM KS es clock L) {x : Value × Value} (hx : x ∈ L) : ∃ en ∈ es.toList, kvOf en = x := by
  have := h.perm.mem_iff.2 hx
  obtain ⟨en, h1, h2⟩ := List.mem_map.1 this
  exact ⟨en, h1, h2⟩
theorem HoldsM.mem (h : HoldsM KS es clock L) {en : MapEntry} (hx : en ∈ es.toList) : (en.key, en.val) ∈ L := h.perm.mem_iff.1 (List.mem_map.2 ⟨en, hx, rfl⟩)
theorem nodup_fst {L : List (Value × Value)} (h : (L.map (·.1)).Nodup) {k v v' : Value} (h1 : (k, v) ∈ L) (h2 : (k, v') ∈ L) : v = v' := by
  induction L with
  | nil => cases h1
  | cons x r ih =>
    simp only [List.map_cons, List.nodup_cons] at h
    rcases List.mem_cons.1 h1 with h1 | h1 <;> rcases List.mem_cons.1 h2 with h2 | h2
    · rw [← h1] at h2; exact (Prod.mk.inj h2).2.symm
    · exact absurd (List.mem_map.2 ⟨_, h2, by rw [← h1]⟩) h.1
    · exact absurd (List.mem_map.2 ⟨_, h1, by rw [← h2]⟩) h.1
    · exact ih h.2 h1 h2
theorem run_lookM (K : KeyTy k KS) (ht : Try.prog.underlying t = some (.map k e)) {z : Value} (hz : (zeroValue e).run Try.prog w = .ok z w) (hb : w.heap[p]? = some (.map es clock)) (hh : HoldsM KS es clock L) {key : Value} (hk : KS key) {b : Bool} {r : Value} (hl : Look L key z b r) (c : Bool) :
    (Instr.lookup t (.map (some p)) key c).run Try.prog w = .ok (if c then .tuple #[r, .bool b] else r) w := by
  rcases K.find w hk es.toList hh.ks with ⟨h1, h2⟩ | ⟨j, e0, h1, h2, h3⟩
  · rcases hl with ⟨rfl, hm⟩ | ⟨rfl, rfl, _⟩
    · obtain ⟨en, hen, hkv⟩ := hh.entry hm
      exact absurd (by simpa [kvOf] using congrArg Prod.fst hkv) (h2 en hen)
    · simp [Instr.lookup, run_underlying ht, MapKept.run_getObj_map hb, K.check w _ hk, h1, hz, Result.andThen]
  · have hm := hh.mem (List.mem_of_getElem? h2)
    rcases hl with ⟨rfl, hm2⟩ | ⟨rfl, rfl, hn⟩
    · rw [h3] at hm
      obtain rfl := nodup_fst hh.keys hm2 hm
      simp [Instr.lookup, run_underlying ht, MapKept.run_getObj_map hb, K.check w _ hk, h1, Result.andThen]
    · exact absurd h3 (hn _ hm)
theorem run_putM (K : KeyTy k KS) (ht : Try.prog.underlying t = some (.map k e)) (hb : w.heap[p]? = some (.map es clock)) (hh : HoldsM KS es clock L) {key v : Value} (hk : KS key) (hp : PutM L key v L') :
    ∃ es' clock', (Instr.mapUpdate t (.map (some p)) key v).run Try.prog w = .ok () (ChangeMaps.setBlock w p (.map es' clock')) ∧ HoldsM KS es' clock' L' := by
  obtain ⟨rest, hr, hL, hL'⟩ := hp
  rcases K.find w hk es.toList hh.ks with ⟨h1, h2⟩ | ⟨j, e0, h1, h2, h3⟩
  · refine ⟨es.push ⟨key, v, clock⟩, clock + 1, ?_, MapKept.stamped_push hh.st h2, ?_, ?_⟩
    · simp [Instr.mapUpdate, run_underlying ht, MapKept.run_getObj_map hb, K.check w false hk, h1, MapKept.run_setObj_map _ hb, Result.andThen, ChangeMaps.setBlock]
    · rcases hL with hL | ⟨v0, hL⟩
      · simp only [Array.toList_push, List.map_append, List.map_cons, List.map_nil]
        refine (List.perm_append_singleton _ _).trans ?_
        exact (((hh.perm.trans hL).cons _).trans hL'.symm)
      · exfalso
        obtain ⟨en, hen, hkv⟩ := hh.entry (hL.mem_iff.2 (List.mem_cons_self ..))
        exact h2 en hen (by simpa [kvOf] using congrArg Prod.fst hkv)
    · intro x hx
      simp only [Array.toList_push, List.mem_append, List.mem_singleton] at hx
      rcases hx with hx | rfl
      · exact hh.ks x hx
      · exact hk
  · have hj : es[j]? = some e0 := by simpa using h2
    have hjl : j < es.toList.length := (List.getElem?_eq_some_iff.1 h2).1
    have hje : es.toList[j] = e0 := (List.getElem?_eq_some_iff.1 h2).2
    have hlist : (es.modify j (fun e' => { e' with key := key, val := v })).toList = es.toList.set j { e0 with key := key, val := v } := by rw [Array.toList_modify, ChangeMaps.modify_eq_set _ _ _ _ h2]
    refine ⟨es.modify j (fun e' => { e' with key := key, val := v }), clock, ?_, MapKept.stamped_modify hh.st _ _ (fun _ _ => rfl) (fun e' _ he' => by rw [hj] at he'; cases he'; exact h3.symm), ?_, ?_⟩
    · simp [Instr.mapUpdate, run_underlying ht, MapKept.run_getObj_map hb, K.check w false hk, h1, hj, h3, K.stays w hk, MapKept.run_setObj_map _ hb, Result.andThen, ChangeMaps.setBlock]
    · rw [hlist, List.map_set]
      have hp0 : (es.toList.map kvOf).Perm (kvOf e0 :: (es.toList.map kvOf).eraseIdx j) := by
        have := perm_erase (es.toList.map kvOf) j (by simpa using hjl)
        rw [List.getElem_map, hje] at this
        exact this
      have hp1 : ((es.toList.map kvOf).set j (kvOf { e0 with key := key, val := v })).Perm ((key, v) :: (es.toList.map kvOf).eraseIdx j) := ChangeMaps.set_perm _ _ (by simpa using hjl) _
      refine hp1.trans (List.Perm.trans ?_ hL'.symm)
      refine List.Perm.cons _ ?_
      have hk0 : kvOf e0 = (key, e0.val) := by unfold kvOf; rw [h3]
      rw [hk0] at hp0
      rcases hL with hL | ⟨v0, hL⟩
      · exfalso
        have := (hh.perm.trans hL).mem_iff.1 (hp0.mem_iff.2 (List.mem_cons_self ..))
        exact hr _ this rfl
      · have h5 := (hp0.symm.trans (hh.perm.trans hL))
        have hv : e0.val = v0 := nodup_fst hh.keys (hh.perm.mem_iff.1 (hp0.mem_iff.2 (List.mem_cons_self ..))) (hL.mem_iff.2 (List.mem_cons_self ..))
        rw [hv] at h5
        exact h5.cons_inv
    · intro x hx
      rw [hlist] at hx
      rcases List.mem_or_eq_of_mem_set hx with hx | rfl
      · exact hh.ks x hx
      · exact hk
theorem run_delM {ty : TypeId} (K : KeyTy k KS) (ht : Try.prog.underlying t = some (.map k e)) (hb : w.heap[p]? = some (.map es clock)) (hh : HoldsM KS es clock L) {key : Value} (hk : KS key) (hp : DelM L key L') :
    ∃ es' clock', (Builtin.delete_ #[t, k] ty #[.map (some p), key]).run Try.prog w = .ok (.tuple #[]) (ChangeMaps.setBlock w p (.map es' clock')) ∧ HoldsM KS es' clock' L' := by
  obtain ⟨rest, hr, hL, hL'⟩ := hp
  rcases K.find w hk es.toList hh.ks with ⟨h1, h2⟩ | ⟨j, e0, h1, h2, h3⟩
  · refine ⟨es, clock, ?_, hh.st, ?_, hh.ks⟩
    · simp [Builtin.delete_, run_underlying ht, MapKept.run_getObj_map hb, K.check w _ hk, h1, MapKept.run_setObj_map _ hb, Result.andThen, ChangeMaps.setBlock]
    · rcases hL with hL | ⟨v0, hL⟩
      · exact (hh.perm.trans hL).trans hL'.symm
      · exfalso
        obtain ⟨en, hen, hkv⟩ := hh.entry (hL.mem_iff.2 (List.mem_cons_self ..))
        exact h2 en hen (by simpa [kvOf] using congrArg Prod.fst hkv)
  · have hjl : j < es.toList.length := (List.getElem?_eq_some_iff.1 h2).1
    have hjs : j < es.size := by simpa using hjl
    have hje : es.toList[j] = e0 := (List.getElem?_eq_some_iff.1 h2).2
    have hsub : (es.eraseIdxIfInBounds j).toList = es.toList.eraseIdx j := by
      unfold Array.eraseIdxIfInBounds
      rw [dif_pos hjs]
      simp
    refine ⟨es.eraseIdxIfInBounds j, clock, ?_, MapKept.stamped_erase hh.st j, ?_, ?_⟩
    · simp [Builtin.delete_, run_underlying ht, MapKept.run_getObj_map hb, K.check w _ hk, h1, MapKept.run_setObj_map _ hb, Result.andThen, ChangeMaps.setBlock]
    · rw [hsub, ChangeMaps.map_eraseIdx]
      have hp0 : (es.toList.map kvOf).Perm (kvOf e0 :: (es.toList.map kvOf).eraseIdx j) := by
        have := perm_erase (es.toList.map kvOf) j (by simpa using hjl)
        rw [List.getElem_map, hje] at this
        exact this
      have hk0 : kvOf e0 = (key, e0.val) := by unfold kvOf; rw [h3]
      rw [hk0] at hp0
      refine List.Perm.trans ?_ hL'.symm
      rcases hL with hL | ⟨v0, hL⟩
      · exfalso
        exact hr _ ((hh.perm.trans hL).mem_iff.1 (hp0.mem_iff.2 (List.mem_cons_self ..))) rfl
      · have hv : e0.val = v0 := nodup_fst hh.keys (hh.perm.mem_iff.1 (hp0.mem_iff.2 (List.mem_cons_self ..))) (hL.mem_iff.2 (List.mem_cons_self ..))
        have h5 := hp0.symm.trans (hh.perm.trans hL)
        rw [hv] at h5
        exact h5.cons_inv
    · intro x hx
      rw [hsub] at hx
      exact hh.ks x ((List.eraseIdx_sublist _ _).subset hx)
theorem grown_setBlock {p : Nat} {o : Obj} : w.grownBy (ChangeMaps.setBlock w p o) (some p) :=
  ⟨rfl, rfl, rfl, by simp [ChangeMaps.setBlock], fun k _ hk => by
    have hne : p ≠ k := fun e => hk (by rw [e])
    simp [ChangeMaps.setBlock, Array.getElem?_setIfInBounds_ne hne]⟩
theorem setBlock_at {p : Nat} {o o' : Obj} (h : w.heap[p]? = some o) : (ChangeMaps.setBlock w p o').heap[p]? = some o' := by
  have hlt : p < w.heap.size := (Array.getElem?_eq_some_iff.1 h).1
  simp [ChangeMaps.setBlock, hlt]
end

section
variable {ops : Array Oper} {rest : List Oper} {a : Act} {w W : World} {l l' : List Thing} {Q : Exit → Act → World → Prop} {KS : Value → Prop} {k e : TypeId} {L L' : List (Value × Value)}
/-- What a map's type and its elements' zero say. -/
structure MapTy (t k e : TypeId) (KS : Value → Prop) (z : Value) : Prop where
  und : Try.prog.underlying t = some (.map k e)
  key : KeyTy k KS
  zero : ∀ w, (zeroValue e).run Try.prog w = .ok z w
theorem wpl_look {dst : Option Tmp} {ty : TypeId} {pos : String} {after : Array Edge} {guard : Option (Nat × Bool)} {t : TypeId} {x y : Operand} {p : Nat} {key z r : Value} {b c : Bool} (MT : MapTy t k e KS z) (hw : Region.wanted ⟨dst, .lookup t x y c, ty, pos, after, guard⟩ (yielded ops a.tmps) = true) (hx : a.eval x = .map (some p)) (hy : a.eval y = key) (hk : KS key)
    (H : Heap W l w) (m : MapT KS p L ∈ l) (hl : Look L key z b r) (h : wpList Try.prog ops Q rest (a.put dst (if c then .tuple #[r, .bool b] else r)) w) : wpList Try.prog ops Q (⟨dst, .lookup t x y c, ty, pos, after, guard⟩ :: rest) a w := by
  obtain ⟨es, clock, hb, hh⟩ := H.ok _ m
  refine BigFrame.wpList_want hw fun K hK => ?_
  unfold Oper.wp execOp
  simp only [hx, hy, Sem.run_bind, run_lookM MT.key MT.und (MT.zero w) hb hh hk hl c, Result.andThen_ok, Sem.run_pure]
  exact hK _ _ h
theorem wpQ_look {K : Act → Prop} {H : Heap W l w} {dst : Option Tmp} {ty : TypeId} {pos : String} {after : Array Edge} {guard : Option (Nat × Bool)} {t : TypeId} {x y : Operand} {p : Nat} {key z r : Value} {b c : Bool} (MT : MapTy t k e KS z) (hw : Region.wanted ⟨dst, .lookup t x y c, ty, pos, after, guard⟩ (yielded ops a.tmps) = true) (hx : a.eval x = .map (some p)) (hy : a.eval y = key) (hk : KS key)
    (m : MapT KS p L ∈ l) (hl : Look L key z b r) (h : wpQuiet Try.prog ops (fun w' => ∃ d, w' = H.any d) K rest (a.put dst (if c then .tuple #[r, .bool b] else r))) : wpQuiet Try.prog ops (fun w' => ∃ d, w' = H.any d) K (⟨dst, .lookup t x y c, ty, pos, after, guard⟩ :: rest) a := by
  refine BigFrame.wpQuiet_want hw fun K hK => ⟨_, ?_, hK _ h⟩
  rintro _ ⟨d, rfl⟩
  obtain ⟨es, clock, hb, hh⟩ := (H.any_heap d).ok _ m
  unfold Oper.quietAt execOp
  simp only [hx, hy, Sem.run_bind, run_lookM MT.key MT.und (MT.zero _) hb hh hk hl c]
  exact ⟨rfl, rfl⟩
theorem wpl_look0 {dst : Option Tmp} {ty : TypeId} {pos : String} {after : Array Edge} {guard : Option (Nat × Bool)} {t : TypeId} {x y : Operand} {p : Nat} {key z r : Value} {b : Bool} (MT : MapTy t k e KS z) (hw : Region.wanted ⟨dst, .lookup t x y false, ty, pos, after, guard⟩ (yielded ops a.tmps) = true) (hx : a.eval x = .map (some p)) (hy : a.eval y = key) (hk : KS key)
    (H : Heap W l w) (m : MapT KS p L ∈ l) (hl : Look L key z b r) (h : wpList Try.prog ops Q rest (a.put dst (r)) w) : wpList Try.prog ops Q (⟨dst, .lookup t x y false, ty, pos, after, guard⟩ :: rest) a w :=
  wpl_look MT hw hx hy hk H m hl (by rw [if_neg Bool.false_ne_true]; exact h)
theorem wpl_look1 {dst : Option Tmp} {ty : TypeId} {pos : String} {after : Array Edge} {guard : Option (Nat × Bool)} {t : TypeId} {x y : Operand} {p : Nat} {key z r : Value} {b : Bool} (MT : MapTy t k e KS z) (hw : Region.wanted ⟨dst, .lookup t x y true, ty, pos, after, guard⟩ (yielded ops a.tmps) = true) (hx : a.eval x = .map (some p)) (hy : a.eval y = key) (hk : KS key)
    (H : Heap W l w) (m : MapT KS p L ∈ l) (hl : Look L key z b r) (h : wpList Try.prog ops Q rest (a.put dst (.tuple #[r, .bool b])) w) : wpList Try.prog ops Q (⟨dst, .lookup t x y true, ty, pos, after, guard⟩ :: rest) a w :=
  wpl_look MT hw hx hy hk H m hl (by rw [if_pos rfl]; exact h)
theorem wpQ_look0 {K : Act → Prop} {H : Heap W l w} {dst : Option Tmp} {ty : TypeId} {pos : String} {after : Array Edge} {guard : Option (Nat × Bool)} {t : TypeId} {x y : Operand} {p : Nat} {key z r : Value} {b : Bool} (MT : MapTy t k e KS z) (hw : Region.wanted ⟨dst, .lookup t x y false, ty, pos, after, guard⟩ (yielded ops a.tmps) = true) (hx : a.eval x = .map (some p)) (hy : a.eval y = key) (hk : KS key)
    (m : MapT KS p L ∈ l) (hl : Look L key z b r) (h : wpQuiet Try.prog ops (fun w' => ∃ d, w' = H.any d) K rest (a.put dst (r))) : wpQuiet Try.prog ops (fun w' => ∃ d, w' = H.any d) K (⟨dst, .lookup t x y false, ty, pos, after, guard⟩ :: rest) a :=
  wpQ_look MT hw hx hy hk m hl (by rw [if_neg Bool.false_ne_true]; exact h)
theorem wpQ_look1 {K : Act → Prop} {H : Heap W l w} {dst : Option Tmp} {ty : TypeId} {pos : String} {after : Array Edge} {guard : Option (Nat × Bool)} {t : TypeId} {x y : Operand} {p : Nat} {key z r : Value} {b : Bool} (MT : MapTy t k e KS z) (hw : Region.wanted ⟨dst, .lookup t x y true, ty, pos, after, guard⟩ (yielded ops a.tmps) = true) (hx : a.eval x = .map (some p)) (hy : a.eval y = key) (hk : KS key)
    (m : MapT KS p L ∈ l) (hl : Look L key z b r) (h : wpQuiet Try.prog ops (fun w' => ∃ d, w' = H.any d) K rest (a.put dst (.tuple #[r, .bool b]))) : wpQuiet Try.prog ops (fun w' => ∃ d, w' = H.any d) K (⟨dst, .lookup t x y true, ty, pos, after, guard⟩ :: rest) a :=
  wpQ_look MT hw hx hy hk m hl (by rw [if_pos rfl]; exact h)
theorem wpl_putM {dst : Option Tmp} {ty : TypeId} {pos : String} {after : Array Edge} {guard : Option (Nat × Bool)} {t : TypeId} {x y u : Operand} {p : Nat} {key z v : Value} (MT : MapTy t k e KS z) (hw : Region.wanted ⟨dst, .mapUpdate t x y u, ty, pos, after, guard⟩ (yielded ops a.tmps) = true) (hx : a.eval x = .map (some p)) (hy : a.eval y = key) (hu : a.eval u = v) (hk : KS key)
    (H : Heap W l w) (hp : PutM L key v L') (r : Repl l (MapT KS p L) (MapT KS p L') l') (h : ∀ w', Heap W l' w' → wpList Try.prog ops Q rest (a.put dst undef) w') : wpList Try.prog ops Q (⟨dst, .mapUpdate t x y u, ty, pos, after, guard⟩ :: rest) a w := by
  obtain ⟨es, clock, hb, hh⟩ := H.ok _ r.mem
  obtain ⟨es', clock', hrun, hh'⟩ := run_putM MT.key MT.und hb hh hk hp
  refine BigFrame.wpList_want hw fun K hK => ?_
  unfold Oper.wp execOp
  simp only [hx, hy, hu, Sem.run_bind, hrun, Result.andThen_ok, Sem.run_pure]
  exact hK _ _ (h _ (H.upd r grown_setBlock ⟨es', clock', setBlock_at hb, hh'⟩ (.inl rfl)))
theorem wpl_delM {dst : Option Tmp} {ty : TypeId} {pos : String} {after : Array Edge} {guard : Option (Nat × Bool)} {t : TypeId} {x y : Operand} {p : Nat} {key z : Value} (MT : MapTy t k e KS z) (hw : Region.wanted ⟨dst, .call { callee := .builtin .delete, args := #[x, y], argTypes := #[t, k] }, ty, pos, after, guard⟩ (yielded ops a.tmps) = true) (hx : a.eval x = .map (some p)) (hy : a.eval y = key) (hk : KS key)
    (H : Heap W l w) (hp : DelM L key L') (r : Repl l (MapT KS p L) (MapT KS p L') l') (h : ∀ w', Heap W l' w' → wpList Try.prog ops Q rest (a.put dst (.tuple #[])) w') : wpList Try.prog ops Q (⟨dst, .call { callee := .builtin .delete, args := #[x, y], argTypes := #[t, k] }, ty, pos, after, guard⟩ :: rest) a w := by
  obtain ⟨es, clock, hb, hh⟩ := H.ok _ r.mem
  obtain ⟨es', clock', hrun, hh'⟩ := run_delM (ty := ty) MT.key MT.und hb hh hk hp
  refine BigFrame.wpList_want hw fun K hK => ?_
  unfold Oper.wp execOp
  simp only [resolve, invoke, builtin, List.map_toArray, List.map_cons, List.map_nil, hx, hy, Sem.run_bind, Sem.run_pure, hrun, Result.andThen_ok]
  exact hK _ _ (h _ (H.upd r grown_setBlock ⟨es', clock', setBlock_at hb, hh'⟩ (.inl rfl)))
theorem wpl_makeM {dst : Option Tmp} {ty : TypeId} {pos : String} {after : Array Edge} {guard : Option (Nat × Bool)} {t : TypeId} (hw : Region.wanted ⟨dst, .makeMap t none, ty, pos, after, guard⟩ (yielded ops a.tmps) = true)
    (H : Heap W l w) (h : ∀ p w', Heap W (MapT KS p [] :: l) w' → wpList Try.prog ops Q rest (a.put dst (.map (some p))) w') : wpList Try.prog ops Q (⟨dst, .makeMap t none, ty, pos, after, guard⟩ :: rest) a w := by
  refine BigFrame.wpList_want hw fun K hK => ?_
  unfold Oper.wp execOp
  simp only [Option.map_none, Instr.makeMap, newObj, Sem.run_bind]
  refine hK _ _ (h w.heap.size (w.alloc (.map #[] 0)) ?_)
  exact H.add ⟨rfl, rfl, rfl, by simp, fun k hk _ => Below.heap_alloc _ _ _ hk⟩ ⟨#[], 0, heap_alloc_new w _, MapKept.stamped_empty 0, by simp, by simp⟩ (fun k hk => by cases hk; exact ⟨Nat.le_refl _, by simp⟩)
theorem run_lenM {ty t p : Nat} (hu : Try.prog.underlying t = some (.map k e)) (H : Heap W l w) (m : MapT KS p L ∈ l) : (Builtin.len_ #[t] ty #[.map (some p)]).run Try.prog w = .ok (goInt L.length) w := by
  obtain ⟨es, clock, hb, hh⟩ := H.ok _ m
  simp [Builtin.len_, run_underlying hu, MapKept.run_getObj_map hb, hh.size, Result.andThen]
theorem wpl_lenM {dst : Option Tmp} {ty : TypeId} {pos : String} {after : Array Edge} {guard : Option (Nat × Bool)} {t : TypeId} {x : Operand} {p : Nat} (hu : Try.prog.underlying t = some (.map k e)) (hw : Region.wanted ⟨dst, .call { callee := .builtin .len, args := #[x], argTypes := #[t] }, ty, pos, after, guard⟩ (yielded ops a.tmps) = true) (hx : a.eval x = .map (some p))
    (H : Heap W l w) (m : MapT KS p L ∈ l) (h : wpList Try.prog ops Q rest (a.put dst (.int .i64 (L.length : Int))) w) : wpList Try.prog ops Q (⟨dst, .call { callee := .builtin .len, args := #[x], argTypes := #[t] }, ty, pos, after, guard⟩ :: rest) a w := by
  refine BigFrame.wpList_want hw fun K hK => ?_
  unfold Oper.wp execOp
  simp only [resolve, invoke, builtin, List.map_toArray, List.map_cons, List.map_nil, hx, Sem.run_bind, Sem.run_pure, run_lenM hu H m, Result.andThen_ok]
  exact hK _ _ h
theorem wpQ_lenM {K : Act → Prop} {H : Heap W l w} {dst : Option Tmp} {ty : TypeId} {pos : String} {after : Array Edge} {guard : Option (Nat × Bool)} {t : TypeId} {x : Operand} {p : Nat} (hu : Try.prog.underlying t = some (.map k e)) (hw : Region.wanted ⟨dst, .call { callee := .builtin .len, args := #[x], argTypes := #[t] }, ty, pos, after, guard⟩ (yielded ops a.tmps) = true) (hx : a.eval x = .map (some p))
    (m : MapT KS p L ∈ l) (h : wpQuiet Try.prog ops (fun w' => ∃ d, w' = H.any d) K rest (a.put dst (.int .i64 (L.length : Int)))) : wpQuiet Try.prog ops (fun w' => ∃ d, w' = H.any d) K (⟨dst, .call { callee := .builtin .len, args := #[x], argTypes := #[t] }, ty, pos, after, guard⟩ :: rest) a := by
  refine BigFrame.wpQuiet_want hw fun K hK => ⟨_, ?_, hK _ h⟩
  rintro _ ⟨d, rfl⟩
  unfold Oper.quietAt execOp
  simp only [resolve, invoke, builtin, List.map_toArray, List.map_cons, List.map_nil, hx, Sem.run_bind, Sem.run_pure, run_lenM hu (H.any_heap d) m, Result.andThen_ok]
  exact ⟨rfl, rfl⟩
/-- A map laid open, and shut again. -/
theorem Heap.openM {p : Nat} (H : Heap W (MapT KS p L :: l) w) : ∃ es clock, HoldsM KS es clock L ∧ Heap W (MapX p es clock :: l) w := by
  obtain ⟨es, clock, hb, hh⟩ := H.ok _ (List.mem_cons_self ..)
  exact ⟨es, clock, hh, H.head (World.grownBy.refl _ _) hb (.inl rfl)⟩
theorem Heap.shutM {p : Nat} {es : Array MapEntry} {clock : Nat} (H : Heap W (MapX p es clock :: l) w) (hh : HoldsM KS es clock L) : Heap W (MapT KS p L :: l) w :=
  H.head (World.grownBy.refl _ _) ⟨es, clock, H.ok _ (List.mem_cons_self ..), hh⟩ (.inl rfl)
theorem wpl_rangeM {dst : Option Tmp} {ty : TypeId} {pos : String} {after : Array Edge} {guard : Option (Nat × Bool)} {t : TypeId} {x : Operand} {p : Nat} {es : Array MapEntry} {clock : Nat} (hu : Try.prog.underlying t = some (.map k e)) (hw : Region.wanted ⟨dst, .range t x, ty, pos, after, guard⟩ (yielded ops a.tmps) = true) (hx : a.eval x = .map (some p))
    (H : Heap W l w) (m : MapX p es clock ∈ l) (h : ∀ r w', Heap W (IterX r p clock #[] clock :: l) w' → wpList Try.prog ops Q rest (a.put dst (.pointer (some ⟨r, 0, none⟩))) w') : wpList Try.prog ops Q (⟨dst, .range t x, ty, pos, after, guard⟩ :: rest) a w := by
  refine BigFrame.wpList_want hw fun K hK => ?_
  unfold Oper.wp execOp
  simp only [hx, Sem.run_bind, run_range_map w t k e p es clock hu (H.ok _ m), Result.andThen_ok, Sem.run_pure]
  refine hK _ _ (h w.heap.size (w.alloc (.mapIter (some p) clock #[] clock)) ?_)
  exact H.add ⟨rfl, rfl, rfl, by simp, fun k hk _ => Below.heap_alloc _ _ _ hk⟩ (heap_alloc_new w _) (fun k hk => by cases hk; exact ⟨Nat.le_refl _, by simp⟩)
/-- The step of a range over a map: all are done; or one more comes. -/
theorem wpl_nextM {dst : Option Tmp} {ty : TypeId} {pos : String} {after : Array Edge} {guard : Option (Nat × Bool)} {x : Operand} {r p c0 : Nat} {es : Array MapEntry} {clock : Nat} {done : List MapEntry} (hw : Region.wanted ⟨dst, .next x false, ty, pos, after, guard⟩ (yielded ops a.tmps) = true) (hx : a.eval x = .pointer (some ⟨r, 0, none⟩))
    (hst : MapKept.Stamped es clock) (hc : clock ≤ c0) (hd : ∀ y ∈ done, y ∈ es.toList) (hnd : done.Nodup) (H : Heap W l w) (m : MapX p es clock ∈ l) (m2 : IterX r p clock (done.map (fun e : MapEntry => e.born)).toArray c0 ∈ l)
    (h0 : done.Perm es.toList → wpList Try.prog ops Q rest (a.put dst (.tuple #[.bool false])) w)
    (h1 : ∀ en ∈ es.toList, en ∉ done → ∀ l', Repl l (IterX r p clock (done.map (fun e : MapEntry => e.born)).toArray c0) (IterX r p clock ((done ++ [en]).map (fun e : MapEntry => e.born)).toArray clock) l' → ∀ w', Heap W l' w' → (∀ w2 l2, Heap W l2 w2 → MapX p es clock ∈ l2 → IterX r p clock ((done ++ [en]).map (fun e : MapEntry => e.born)).toArray clock ∈ l2 → (Instr.entry (.pointer (some ⟨r, 0, none⟩))).run Try.prog w2 = .ok (.tuple #[en.key, en.val]) w2) → wpList Try.prog ops Q rest (a.put dst (.tuple #[.bool true, en.key, en.val])) w') :
    wpList Try.prog ops Q (⟨dst, .next x false, ty, pos, after, guard⟩ :: rest) a w := by
  obtain ⟨s1, s2, s3⟩ := (MapKept.stamped_iff es clock).1 hst
  have hne : es.toList.Nodup := (List.Pairwise.of_map (fun (e : MapEntry) => e.born) (fun x y h e => h (by rw [e])) s2)
  have hinj : ∀ x ∈ es.toList, ∀ y ∈ es.toList, x.born = y.born → x = y := fun x hx y hy e => by
    exact born_inj s2 hx hy e
  refine BigFrame.wpList_want hw fun K hK => ?_
  unfold Oper.wp execOp
  have hr0 : w.heap[r]? = some (.mapIter (some p) clock (done.map (fun e : MapEntry => e.born)).toArray c0) := H.ok _ m2
  have hm0 : w.heap[p]? = some (.map es clock) := H.ok _ m
  rcases run_next_at (P := Try.prog) w ty r p clock c0 (done.map (fun e : MapEntry => e.born)).toArray es clock hr0 hm0 s1 hc with ⟨hz, hrun⟩ | ⟨en, hen, w1, hw1, hrun⟩
  · simp only [hx, Sem.run_bind, hrun, Result.andThen_ok, Sem.run_pure]
    refine hK _ _ (h0 ?_)
    refine (List.perm_ext_iff_of_nodup hnd hne).2 fun y => ⟨hd y, fun hy => ?_⟩
    have : leftOf es (done.map (fun e : MapEntry => e.born)).toArray = #[] := Array.eq_empty_of_size_eq_zero hz
    unfold leftOf at this
    rw [Array.filter_eq_empty_iff] at this
    have := this y (by simpa using hy)
    simp only [List.contains_toArray, Bool.not_eq_eq_eq_not, Bool.not_true, Bool.not_eq_false, List.contains_iff_mem, List.mem_map] at this
    obtain ⟨z, hz1, hz2⟩ := this
    rw [← hinj z (hd z hz1) y hy hz2]
    exact hz1
  · simp only [hx, Sem.run_bind, hrun, Result.andThen_ok, Sem.run_pure]
    have hen' : en ∈ es.toList ∧ en ∉ done := by
      unfold leftOf at hen
      simp only [Array.toList_filter, List.mem_filter] at hen
      refine ⟨hen.1, fun hin => ?_⟩
      have := hen.2
      simp only [List.contains_toArray, Bool.not_eq_eq_eq_not, Bool.not_true, List.contains_eq_mem, decide_eq_false_iff_not, List.mem_map, not_exists, not_and] at this
      exact this en hin rfl
    have hpush : (done.map (fun e : MapEntry => e.born)).toArray.push en.born = ((done ++ [en]).map (fun e : MapEntry => e.born)).toArray := by simp
    rw [hpush] at hrun ⊢
    obtain ⟨l', hl'⟩ := Repl.of_mem (IterX r p clock ((done ++ [en]).map (fun e : MapEntry => e.born)).toArray clock) m2
    refine hK _ _ (h1 en hen'.1 hen'.2 l' hl' _ ?_ ?_)
    · have H1 : Heap W l w1 := by
        rcases hw1 with rfl | rfl
        · exact H
        · exact H.drew
      exact H1.upd hl' grown_setBlock (setBlock_at (H1.ok _ m2)) (.inl rfl)
    · intro w2 l2 H2 n1 n2
      refine run_entry_at w2 r p clock (done.map (fun e : MapEntry => e.born)).toArray es clock en ?_ (H2.ok _ n1) hen'.1 s2
      have := H2.ok _ n2
      rw [← hpush] at this
      exact this
/-- The same with one goal behind it. -/
theorem wpl_nextP {dst : Option Tmp} {ty : TypeId} {pos : String} {after : Array Edge} {guard : Option (Nat × Bool)} {x : Operand} {r p c0 : Nat} {es : Array MapEntry} {clock : Nat} {done : List MapEntry} {lf : MapEntry → List Thing} (hw : Region.wanted ⟨dst, .next x false, ty, pos, after, guard⟩ (yielded ops a.tmps) = true) (hx : a.eval x = .pointer (some ⟨r, 0, none⟩))
    (hst : MapKept.Stamped es clock) (hc : clock ≤ c0) (hd : ∀ y ∈ done, y ∈ es.toList) (hnd : done.Nodup) (H : Heap W l w) (m : MapX p es clock ∈ l) (m2 : IterX r p clock (done.map (fun e : MapEntry => e.born)).toArray c0 ∈ l)
    (hr : ∀ en : MapEntry, Repl l (IterX r p clock (done.map (fun e : MapEntry => e.born)).toArray c0) (IterX r p clock ((done ++ [en]).map (fun e : MapEntry => e.born)).toArray clock) (lf en))
    (h : (done.Perm es.toList → wpList Try.prog ops Q rest (a.put dst (.tuple #[.bool false])) w) ∧
      (∀ en ∈ es.toList, en ∉ done → ∀ w', Heap W (lf en) w' → (∀ w2 l2, Heap W l2 w2 → MapX p es clock ∈ l2 → IterX r p clock ((done ++ [en]).map (fun e : MapEntry => e.born)).toArray clock ∈ l2 → (Instr.entry (.pointer (some ⟨r, 0, none⟩))).run Try.prog w2 = .ok (.tuple #[en.key, en.val]) w2) → wpList Try.prog ops Q rest (a.put dst (.tuple #[.bool true, en.key, en.val])) w')) :
    wpList Try.prog ops Q (⟨dst, .next x false, ty, pos, after, guard⟩ :: rest) a w := by
  refine wpl_nextM hw hx hst hc hd hnd H m m2 h.1 fun en h1 h2 l' hl' w' H' he => ?_
  refine h.2 en h1 h2 w' (H'.perm ?_) he
  exact hl'.same (hr en)
theorem wpl_entryM {dst : Option Tmp} {ty : TypeId} {pos : String} {after : Array Edge} {guard : Option (Nat × Bool)} {x : Operand} {v u : Value} (hw : Region.wanted ⟨dst, .entry x, ty, pos, after, guard⟩ (yielded ops a.tmps) = true) (hx : a.eval x = v)
    (hr : (Instr.entry v).run Try.prog w = .ok u w) (h : wpList Try.prog ops Q rest (a.put dst u) w) : wpList Try.prog ops Q (⟨dst, .entry x, ty, pos, after, guard⟩ :: rest) a w := by
  refine BigFrame.wpList_want hw fun K hK => ?_
  unfold Oper.wp execOp
  simp only [hx, Sem.run_bind, hr, Result.andThen_ok, Sem.run_pure]
  exact hK _ _ h
end
end Go.Proofs.Ytgobnamhdkbbeaa
