/- Part 9 of what ProofNettingsPlay stands on: Rnd1, Once, Party, HeapEarly, Reverse, May6, HeapClear. -/
import Derived.Test.YtgobnamhdkbbeaaGreatNetPPart8
/- rounds: party, order, may. -/
namespace Go.Proofs.YtgobnamhdkbbeaaGreat
open Go.RowKit Go.Sort
set_option linter.unusedSimpArgs false
set_option linter.unusedVariables false
set_option maxRecDepth 100000
set_option maxHeartbeats 2000000
theorem party8 (a : Nat) (h : a ≤ 255) : Ans 83 #[.int .u8 (a : Int)] (.bool (mayP a)) := by
  intro w
  unfold mayP
  by_cases h1 : 1 ≤ a
  · by_cases h2 : a ≤ 16
    all_goals
      go_enter Tryz.func83, Tryz.ntmps83
      go_wp2_with fail
      go_ret
      exact ⟨by simp [h1, h2]; omega, (by repeat (first | exact Ext.refl _ | refine Ext.alloc ?_ _ | refine Ext.ext ?_ _ | refine Ext.drew ?_))⟩
  · go_enter Tryz.func83, Tryz.ntmps83
    go_wp2_with fail
    go_ret
    exact ⟨by simp [h1], (by repeat (first | exact Ext.refl _ | refine Ext.alloc ?_ _ | refine Ext.ext ?_ _ | refine Ext.drew ?_))⟩
/-- By from, then by to. -/
def cfF (x y : Flw) : Int := orL [Lib.compareInt x.f y.f, Lib.compareInt x.t y.t]
theorem order8 (x y : Flw) : AnsG 84 #[.agg (flow (x.f : Int) (x.t : Int) x.n), .agg (flow (y.f : Int) (y.t : Int) y.n)] (.int .i64 (cfF x y)) := by
  intro w
  unfold cfF
  have c2 := AnsG.same (cmpP_ans x.f y.f)
  have c3 := AnsG.same (cmpP_ans x.t y.t)
  obtain ⟨xr, xd, xn⟩ := x
  obtain ⟨yr, yd, yn⟩ := y
  simp only at c2 c3 ⊢
  have h1 : blk ((w.alloc (.cells (flow (xr : Int) (xd : Int) xn) 53)).alloc (.cells (flow (yr : Int) (yd : Int) yn) 53)) w.heap.size = some (.cells (flow (xr : Int) (xd : Int) xn) 53 (0, 0)) := by
    unfold blk
    rw [Below.heap_alloc _ _ _ (by simp)]
    exact heap_alloc_new w _
  have h2 : blk ((w.alloc (.cells (flow (xr : Int) (xd : Int) xn) 53)).alloc (.cells (flow (yr : Int) (yd : Int) yn) 53)) (w.heap.size + 1) = some (.cells (flow (yr : Int) (yd : Int) yn) 53 (0, 0)) := by
    have := heap_alloc_new (w.alloc (.cells (flow (xr : Int) (xd : Int) xn) 53)) (.cells (flow (yr : Int) (yd : Int) yn) 53)
    simpa [blk] using this
  have hg : Grw w ((w.alloc (.cells (flow (xr : Int) (xd : Int) xn) 53)).alloc (.cells (flow (yr : Int) (yd : Int) yn) 53)) := ((Grw.refl w).alloc _).alloc _
  generalize Lib.compareInt (xr : Int) (yr : Int) = b at *
  generalize Lib.compareInt (xd : Int) (yd : Int) = c at *
  generalize hw0 : ((w.alloc (.cells (flow (xr : Int) (xd : Int) xn) 53)).alloc (.cells (flow (yr : Int) (yd : Int) yn) 53)) = w0 at *
  have HW := Lib.hid hw0
  clear hw0
  go_enter Tryz.func84, Tryz.ntmps84
  go_wp2_with (go_skip)
  rw [HW.out]
  refine wp_region_G_tail 10 (by kernel_rfl) (by kernel_rfl) ?_
  simp only [List.take_succ_cons, List.take_zero, List.drop_succ_cons, List.drop_zero]
  repeat (first
    | go_big_quiet_skip
    | ((with_reducible apply wpQ_loadCG); (· exact cell_party); (· rfl); (· rfl); (· first | exact h1 | exact h2); (· with_reducible first | exact flow_g0 .. | exact flow_g1 ..); (simp only [Act.put, List.setIfInBounds_toArray, List.set_cons_zero, List.set_cons_succ]))
    | go_big_quiet_step (with_reducible exact AnsG.quiet (by assumption)))
  refine wpQuiet_nil ?_
  clear h1 h2
  intro w1 g1
  have g2 := hg.trans g1
  go_wp2_with (go_skip)
  have hb : Rd (w1.alloc (.cells #[.int .i64 b, .int .i64 c] 3)) (some ⟨w1.heap.size, 0, none⟩) ([b, c].map (Value.int .i64)) := by
    intro i hi
    refine ⟨_, _, rfl, ?_⟩
    rw [cell_of_row _ _ (0 + i) _ _ _ (heap_alloc_new w1 _)]
    simp at hi
    simp [hi]
  refine (or_C _ 2 2 [b, c] rfl (by omega) _ hb).mono ?_
  clear hb
  rintro e w' ⟨rfl, rfl⟩
  go_wp2_with (go_skip)
  go_ret
  exact ⟨rfl, g2.alloc _⟩
/-- May a debt be? -/
def okD (x : Flw) : Bool := mayP x.f && mayP x.t && !(x.f == x.t) && decide (1 ≤ x.n) && decide (x.n ≤ 1099511627776)
/-- The first debts may be, and stand in their order. -/
def OkTo (F : List Flw) (k : Nat) : Prop := ∀ i x, i < k → F[i]? = some x → okD x = true ∧ ∀ y, 0 < i → F[i - 1]? = some y → cfF y x < 0
def MayD (F : List Flw) : Prop := OkTo F F.length
theorem OkTo.next {F : List Flw} {k : Nat} {x : Flw} (h : OkTo F k) (hx : F[k]? = some x) (h1 : okD x = true) (h2 : ∀ y, 0 < k → F[k - 1]? = some y → cfF y x < 0) : OkTo F (k + 1) := fun i z hi hz => by
  by_cases e : i = k
  · subst e
    rw [hx] at hz
    cases hz
    exact ⟨h1, h2⟩
  · exact h i z (by omega) hz
theorem MayD.at {F : List Flw} (h : MayD F) {k : Nat} {x : Flw} (hx : F[k]? = some x) : okD x = true ∧ ∀ y, 0 < k → F[k - 1]? = some y → cfF y x < 0 := h k x (List.getElem?_eq_some_iff.1 hx).1 hx
structure M8R (W : World) (l : List Thing) (F : List Flw) (n : Nat) (i : Value) (wr : World) : Prop where
  out : ∃ k : Nat, k ≤ n ∧ i = .int .i64 (k : Int) ∧ OkTo F k ∧ Heap W l wr
section
variable {W w : World} {l : List Thing}
open Classical in
theorem may8_H (a : Option Addr) (n c : Nat) (F : List Flw) (hl : F.length = n) (hn : n ≤ 1000000) (hF : ∀ x ∈ F, FlwOk x) (R : ∀ l' w', (∀ x ∈ l, x ∈ l') → Heap W l' w' → Rd w' a (flwL F)) :
    AnsH W l 60 #[.slice a n c] (.bool (decide (MayD F))) := by
  intro w H
  have HL := Lib.hid hl
  have HF := Lib.hid hF
  have HR := Lib.hid R
  clear hl hF R
  go_enter Tryz.func60, Tryz.ntmps60
  go_wp2_with (go_skip)
  have H0 := H
  clear H
  go_loopw [7] (fun i wr => M8R W l F n i wr) (fun i _ => n - (intOf i).toNat)
  case atStart => exact ⟨0, Nat.zero_le _, rfl, fun i x hi => absurd hi (by omega), H0⟩
  case round =>
    obtain ⟨k, hk, rfl, hO, H⟩ := hrel.out
    clear H0 hrel
    have HO := Lib.hid hO
    clear hO
    by_cases hlt : k < n
    · have hkF : k < F.length := by rw [HL.out]; exact hlt
      have hx : F[k]? = some F[k] := List.getElem?_eq_getElem hkF
      have hok := HF.out F[k] (List.getElem_mem hkF)
      have hat := flwL_at F k hkF
      have hlen : k * 3 + 3 ≤ (flwL F).length := by rw [flwL_len]; omega
      generalize F[k] = x at *
      have HMAY := Lib.hid (fun (h : MayD F) => h.at hx)
      have HX := Lib.hid hx
      obtain ⟨f, t, m⟩ := x
      obtain ⟨o1, o2, o3, o4⟩ := hok
      simp only at o1 o2 o3 o4
      have hrow : (((flwL F).drop (k * 3)).take 3).toArray = flow (f : Int) (t : Int) m := by rw [hat]; rfl
      obtain ⟨eb, eo, rfl, _⟩ := (HR.out l _ (fun _ h => h) H).lt (by omega)
      have HRd := Lib.hid (HR.out l _ (fun _ h => h) H)
      have P1 := party8 f o1
      have P2 := party8 t o2
      clear hat hx hkF
      by_cases q0 : mayP f = true
      · rw [q0] at P1
        by_cases q1 : mayP t = true
        · rw [q1] at P2
          by_cases q2 : f = t
          · subst q2
            have HN := Lib.hid (show ¬ MayD F from fun h => by have := (HMAY.out h).1; simp [okD] at this)
            clear q0 q1 P2
            go_wp2_with (first
              | go_skip
              | ((with_reducible refine Ans.callH (by assumption) H ?_); clear H; intro _ H)
              | ((with_reducible show wpList _ _ _ (_ :: _) _ _); (with_reducible apply wpl_loadRdR row_flow); (· rfl); (· rfl); (· exact HRd.out); (· rfl); (· exact hlen); (· decide); (· exact hrow); (simp only [Act.put, List.setIfInBounds_toArray, List.set_cons_zero, List.set_cons_succ]))
              | ((with_reducible show wpList _ _ _ (_ :: _) _ _); (with_reducible apply wpl_allocRH row_flow); (· rfl); (· exact H); (clear H; intro px _ H); (simp only [Act.put, List.setIfInBounds_toArray, List.set_cons_zero, List.set_cons_succ]))
              | ((with_reducible show wpList _ _ _ (_ :: _) _ _); (with_reducible apply wpl_storeRH row_flow); (· rfl); (· rfl); (· rfl); (· with_reducible exact flow_cells ..); (· exact H); (· (repeat (first | (with_reducible exact List.mem_cons_self) | with_reducible apply List.mem_cons_of_mem))); (· (simp only [flow_sz, Nat.reduceAdd, Nat.reduceLeDiff, Nat.le_refl]; done)); (· with_reducible exact flow_splice ..); (· (repeat (first | (with_reducible exact Repl.here) | with_reducible apply Repl.there))); (clear H; intro _ H); (simp only [Act.put, List.setIfInBounds_toArray, List.set_cons_zero, List.set_cons_succ]))
              | ((with_reducible show wpList _ _ _ (_ :: _) _ _); (with_reducible apply wpl_loadCH); (· first | exact cell_party | exact cell_i64); (· rfl); (· rfl); (· exact H); (· (repeat (first | (with_reducible exact List.mem_cons_self) | with_reducible apply List.mem_cons_of_mem))); (· (with_reducible first | exact flow_g0 .. | exact flow_g1 .. | exact flow_g2 ..)); (simp only [Act.put, List.setIfInBounds_toArray, List.set_cons_zero, List.set_cons_succ])))
            go_ret
            exact ⟨by rw [decide_eq_false HN.out]; rfl, H.tail⟩
          · have b2 : ((f : Int) == (t : Int)) = false := by simp; omega
            by_cases q3 : m < 1
            · have d3 : decide (m < 1) = true := decide_eq_true q3
              have HN := Lib.hid (show ¬ MayD F from fun h => by have := (HMAY.out h).1; simp [okD] at this; omega)
              clear q0 q1 q2 q3
              go_wp2_with (first
                | go_skip
                | ((with_reducible refine Ans.callH (by assumption) H ?_); clear H; intro _ H)
                | ((with_reducible show wpList _ _ _ (_ :: _) _ _); (with_reducible apply wpl_loadRdR row_flow); (· rfl); (· rfl); (· exact HRd.out); (· rfl); (· exact hlen); (· decide); (· exact hrow); (simp only [Act.put, List.setIfInBounds_toArray, List.set_cons_zero, List.set_cons_succ]))
                | ((with_reducible show wpList _ _ _ (_ :: _) _ _); (with_reducible apply wpl_allocRH row_flow); (· rfl); (· exact H); (clear H; intro px _ H); (simp only [Act.put, List.setIfInBounds_toArray, List.set_cons_zero, List.set_cons_succ]))
                | ((with_reducible show wpList _ _ _ (_ :: _) _ _); (with_reducible apply wpl_storeRH row_flow); (· rfl); (· rfl); (· rfl); (· with_reducible exact flow_cells ..); (· exact H); (· (repeat (first | (with_reducible exact List.mem_cons_self) | with_reducible apply List.mem_cons_of_mem))); (· (simp only [flow_sz, Nat.reduceAdd, Nat.reduceLeDiff, Nat.le_refl]; done)); (· with_reducible exact flow_splice ..); (· (repeat (first | (with_reducible exact Repl.here) | with_reducible apply Repl.there))); (clear H; intro _ H); (simp only [Act.put, List.setIfInBounds_toArray, List.set_cons_zero, List.set_cons_succ]))
                | ((with_reducible show wpList _ _ _ (_ :: _) _ _); (with_reducible apply wpl_loadCH); (· first | exact cell_party | exact cell_i64); (· rfl); (· rfl); (· exact H); (· (repeat (first | (with_reducible exact List.mem_cons_self) | with_reducible apply List.mem_cons_of_mem))); (· (with_reducible first | exact flow_g0 .. | exact flow_g1 .. | exact flow_g2 ..)); (simp only [Act.put, List.setIfInBounds_toArray, List.set_cons_zero, List.set_cons_succ])))
              go_ret
              exact ⟨by rw [decide_eq_false HN.out]; rfl, H.tail⟩
            · have d3 : decide (m < 1) = false := decide_eq_false q3
              by_cases q4 : m > 1099511627776
              · have d4 : decide (m > 1099511627776) = true := decide_eq_true q4
                have HN := Lib.hid (show ¬ MayD F from fun h => by have := (HMAY.out h).1; simp [okD] at this; omega)
                clear q0 q1 q2 q3 q4
                go_wp2_with (first
                  | go_skip
                  | ((with_reducible refine Ans.callH (by assumption) H ?_); clear H; intro _ H)
                  | ((with_reducible show wpList _ _ _ (_ :: _) _ _); (with_reducible apply wpl_loadRdR row_flow); (· rfl); (· rfl); (· exact HRd.out); (· rfl); (· exact hlen); (· decide); (· exact hrow); (simp only [Act.put, List.setIfInBounds_toArray, List.set_cons_zero, List.set_cons_succ]))
                  | ((with_reducible show wpList _ _ _ (_ :: _) _ _); (with_reducible apply wpl_allocRH row_flow); (· rfl); (· exact H); (clear H; intro px _ H); (simp only [Act.put, List.setIfInBounds_toArray, List.set_cons_zero, List.set_cons_succ]))
                  | ((with_reducible show wpList _ _ _ (_ :: _) _ _); (with_reducible apply wpl_storeRH row_flow); (· rfl); (· rfl); (· rfl); (· with_reducible exact flow_cells ..); (· exact H); (· (repeat (first | (with_reducible exact List.mem_cons_self) | with_reducible apply List.mem_cons_of_mem))); (· (simp only [flow_sz, Nat.reduceAdd, Nat.reduceLeDiff, Nat.le_refl]; done)); (· with_reducible exact flow_splice ..); (· (repeat (first | (with_reducible exact Repl.here) | with_reducible apply Repl.there))); (clear H; intro _ H); (simp only [Act.put, List.setIfInBounds_toArray, List.set_cons_zero, List.set_cons_succ]))
                  | ((with_reducible show wpList _ _ _ (_ :: _) _ _); (with_reducible apply wpl_loadCH); (· first | exact cell_party | exact cell_i64); (· rfl); (· rfl); (· exact H); (· (repeat (first | (with_reducible exact List.mem_cons_self) | with_reducible apply List.mem_cons_of_mem))); (· (with_reducible first | exact flow_g0 .. | exact flow_g1 .. | exact flow_g2 ..)); (simp only [Act.put, List.setIfInBounds_toArray, List.set_cons_zero, List.set_cons_succ])))
                go_ret
                exact ⟨by rw [decide_eq_false HN.out]; rfl, H.tail⟩
              · have d4 : decide (m > 1099511627776) = false := decide_eq_false q4
                have HK := Lib.hid (show okD ⟨f, t, m⟩ = true from by simp [okD, q0, q1]; omega)
                clear q0 q1 q2 q3 q4
                go_wp2_with (first
                  | go_skip
                  | ((with_reducible refine Ans.callH (by assumption) H ?_); clear H; intro _ H)
                  | ((with_reducible show wpList _ _ _ (_ :: _) _ _); (with_reducible apply wpl_loadRdR row_flow); (· rfl); (· rfl); (· exact HRd.out); (· rfl); (· exact hlen); (· decide); (· exact hrow); (simp only [Act.put, List.setIfInBounds_toArray, List.set_cons_zero, List.set_cons_succ]))
                  | ((with_reducible show wpList _ _ _ (_ :: _) _ _); (with_reducible apply wpl_allocRH row_flow); (· rfl); (· exact H); (clear H; intro px _ H); (simp only [Act.put, List.setIfInBounds_toArray, List.set_cons_zero, List.set_cons_succ]))
                  | ((with_reducible show wpList _ _ _ (_ :: _) _ _); (with_reducible apply wpl_storeRH row_flow); (· rfl); (· rfl); (· rfl); (· with_reducible exact flow_cells ..); (· exact H); (· (repeat (first | (with_reducible exact List.mem_cons_self) | with_reducible apply List.mem_cons_of_mem))); (· (simp only [flow_sz, Nat.reduceAdd, Nat.reduceLeDiff, Nat.le_refl]; done)); (· with_reducible exact flow_splice ..); (· (repeat (first | (with_reducible exact Repl.here) | with_reducible apply Repl.there))); (clear H; intro _ H); (simp only [Act.put, List.setIfInBounds_toArray, List.set_cons_zero, List.set_cons_succ]))
                  | ((with_reducible show wpList _ _ _ (_ :: _) _ _); (with_reducible apply wpl_loadCH); (· first | exact cell_party | exact cell_i64); (· rfl); (· rfl); (· exact H); (· (repeat (first | (with_reducible exact List.mem_cons_self) | with_reducible apply List.mem_cons_of_mem))); (· (with_reducible first | exact flow_g0 .. | exact flow_g1 .. | exact flow_g2 ..)); (simp only [Act.put, List.setIfInBounds_toArray, List.set_cons_zero, List.set_cons_succ])))
                by_cases hk0 : k = 0
                · have g0 : decide ((k : Int) > 0) = false := decide_eq_false (by omega)
                  have g1 : decide (0 < k) = false := decide_eq_false (by omega)
                  refine wp_region_H H (by kernel_rfl) (by kernel_rfl) ?_
                  repeat (first | go_big_quiet_skip | fail | go_big_quiet_step (fail))
                  refine wpQuiet_nil ?_
                  clear H
                  intro _ H
                  go_wp2_with (go_skip)
                  refine ⟨⟨k + 1, by omega, by go_num, HO.out.next HX.out HK.out (fun y h => absurd h (by omega)), H.tail⟩, ?measure1⟩
                  case measure1 => simp [intOf]; omega
                · have g0 : decide ((k : Int) > 0) = true := decide_eq_true (by omega)
                  have g1 : decide (0 < k) = true := decide_eq_true (by omega)
                  have hjF : k - 1 < F.length := by rw [HL.out]; omega
                  have hy : F[k - 1]? = some F[k - 1] := List.getElem?_eq_getElem hjF
                  have hat := flwL_at F (k - 1) hjF
                  have hlenj : (k - 1) * 3 + 3 ≤ (flwL F).length := by rw [flwL_len]; omega
                  have w1 : wrap64 ((k : Int) - 1) = (k : Int) - 1 := IntWalk.wrap64_in _ ⟨by omega, by omega⟩
                  have hjn : k - 1 < n := by omega
                  generalize F[k - 1] = y at *
                  have hrowj : (((flwL F).drop ((k - 1) * 3)).take 3).toArray = flow (y.f : Int) (y.t : Int) y.n := by rw [hat]; rfl
                  have OA := (order8 y ⟨f, t, m⟩).ans
                  have HY := Lib.hid (show F[k - 1]? = some y from hy)
                  clear hat hjF hy
                  have HCF := Lib.hid (show ∃ o, cfF y ⟨f, t, m⟩ = o from ⟨_, rfl⟩)
                  obtain ⟨o, ho⟩ := HCF.out
                  rw [ho] at OA
                  have HOO := Lib.hid ho
                  clear ho HCF
                  simp only at OA
                  have RJ := Lib.hid (fun (pq : Nat) (w' : World) (h : Heap W (Cel pq (flow (f : Int) (t : Int) m) 53 :: l) w') => HR.out _ w' (fun x hx => List.mem_cons_of_mem _ hx) h)
                  by_cases q5 : o ≥ 0
                  · have d5 : decide (o ≥ 0) = true := decide_eq_true q5
                    have HN := Lib.hid (show ¬ MayD F from fun h => by have := (HMAY.out h).2 y (by omega) HY.out; rw [HOO.out] at this; omega)
                    clear q5
                    refine wp_region_H H (by kernel_rfl) (by kernel_rfl) ?_
                    repeat (first | go_big_quiet_skip | (first | ((with_reducible apply wpQ_loadRdR row_flow); (· rfl); (· rfl); (· exact RJ.out _); (· rfl); (· exact hlenj); (· decide); (· exact hrowj); (simp only [Act.put, List.setIfInBounds_toArray, List.set_cons_zero, List.set_cons_succ])) | ((with_reducible apply wpQ_loadRH row_flow); (· rfl); (· rfl); (· (repeat (first | (with_reducible exact List.mem_cons_self) | with_reducible apply List.mem_cons_of_mem))); (· (simp only [flow_sz, Nat.reduceAdd, Nat.reduceLeDiff, Nat.le_refl]; done)); (· with_reducible exact flow_all ..); (simp only [Act.put, List.setIfInBounds_toArray, List.set_cons_zero, List.set_cons_succ]))) | go_big_quiet_step ((with_reducible first | exact AnsH.quiet (by assumption) | exact Ans.quietH (by assumption))))
                    refine wpQuiet_nil ?_
                    clear H
                    intro _ H
                    go_wp2_with (go_skip)
                    go_ret
                    exact ⟨by rw [decide_eq_false HN.out]; rfl, H.tail⟩
                  · have d5 : decide (o ≥ 0) = false := decide_eq_false q5
                    have HN := Lib.hid (show cfF y ⟨f, t, m⟩ < 0 by rw [HOO.out]; omega)
                    clear q5
                    refine wp_region_H H (by kernel_rfl) (by kernel_rfl) ?_
                    repeat (first | go_big_quiet_skip | (first | ((with_reducible apply wpQ_loadRdR row_flow); (· rfl); (· rfl); (· exact RJ.out _); (· rfl); (· exact hlenj); (· decide); (· exact hrowj); (simp only [Act.put, List.setIfInBounds_toArray, List.set_cons_zero, List.set_cons_succ])) | ((with_reducible apply wpQ_loadRH row_flow); (· rfl); (· rfl); (· (repeat (first | (with_reducible exact List.mem_cons_self) | with_reducible apply List.mem_cons_of_mem))); (· (simp only [flow_sz, Nat.reduceAdd, Nat.reduceLeDiff, Nat.le_refl]; done)); (· with_reducible exact flow_all ..); (simp only [Act.put, List.setIfInBounds_toArray, List.set_cons_zero, List.set_cons_succ]))) | go_big_quiet_step ((with_reducible first | exact AnsH.quiet (by assumption) | exact Ans.quietH (by assumption))))
                    refine wpQuiet_nil ?_
                    clear H
                    intro _ H
                    go_wp2_with (go_skip)
                    refine ⟨⟨k + 1, by omega, by go_num, HO.out.next HX.out HK.out (fun z _ hz => by rw [HY.out] at hz; cases hz; exact HN.out), H.tail⟩, ?measure2⟩
                    case measure2 => simp [intOf]; omega
        · have q1f : mayP t = false := by simpa using q1
          rw [q1f] at P2
          have HN := Lib.hid (show ¬ MayD F from fun h => by have := (HMAY.out h).1; simp [okD, q1f] at this)
          clear q0 q1 q1f
          go_wp2_with (first
            | go_skip
            | ((with_reducible refine Ans.callH (by assumption) H ?_); clear H; intro _ H)
            | ((with_reducible show wpList _ _ _ (_ :: _) _ _); (with_reducible apply wpl_loadRdR row_flow); (· rfl); (· rfl); (· exact HRd.out); (· rfl); (· exact hlen); (· decide); (· exact hrow); (simp only [Act.put, List.setIfInBounds_toArray, List.set_cons_zero, List.set_cons_succ]))
            | ((with_reducible show wpList _ _ _ (_ :: _) _ _); (with_reducible apply wpl_allocRH row_flow); (· rfl); (· exact H); (clear H; intro px _ H); (simp only [Act.put, List.setIfInBounds_toArray, List.set_cons_zero, List.set_cons_succ]))
            | ((with_reducible show wpList _ _ _ (_ :: _) _ _); (with_reducible apply wpl_storeRH row_flow); (· rfl); (· rfl); (· rfl); (· with_reducible exact flow_cells ..); (· exact H); (· (repeat (first | (with_reducible exact List.mem_cons_self) | with_reducible apply List.mem_cons_of_mem))); (· (simp only [flow_sz, Nat.reduceAdd, Nat.reduceLeDiff, Nat.le_refl]; done)); (· with_reducible exact flow_splice ..); (· (repeat (first | (with_reducible exact Repl.here) | with_reducible apply Repl.there))); (clear H; intro _ H); (simp only [Act.put, List.setIfInBounds_toArray, List.set_cons_zero, List.set_cons_succ]))
            | ((with_reducible show wpList _ _ _ (_ :: _) _ _); (with_reducible apply wpl_loadCH); (· first | exact cell_party | exact cell_i64); (· rfl); (· rfl); (· exact H); (· (repeat (first | (with_reducible exact List.mem_cons_self) | with_reducible apply List.mem_cons_of_mem))); (· (with_reducible first | exact flow_g0 .. | exact flow_g1 .. | exact flow_g2 ..)); (simp only [Act.put, List.setIfInBounds_toArray, List.set_cons_zero, List.set_cons_succ])))
          go_ret
          exact ⟨by rw [decide_eq_false HN.out]; rfl, H.tail⟩
      · have q0f : mayP f = false := by simpa using q0
        rw [q0f] at P1
        have HN := Lib.hid (show ¬ MayD F from fun h => by have := (HMAY.out h).1; simp [okD, q0f] at this)
        clear q0 q0f P2
        go_wp2_with (first
          | go_skip
          | ((with_reducible refine Ans.callH (by assumption) H ?_); clear H; intro _ H)
          | ((with_reducible show wpList _ _ _ (_ :: _) _ _); (with_reducible apply wpl_loadRdR row_flow); (· rfl); (· rfl); (· exact HRd.out); (· rfl); (· exact hlen); (· decide); (· exact hrow); (simp only [Act.put, List.setIfInBounds_toArray, List.set_cons_zero, List.set_cons_succ]))
          | ((with_reducible show wpList _ _ _ (_ :: _) _ _); (with_reducible apply wpl_allocRH row_flow); (· rfl); (· exact H); (clear H; intro px _ H); (simp only [Act.put, List.setIfInBounds_toArray, List.set_cons_zero, List.set_cons_succ]))
          | ((with_reducible show wpList _ _ _ (_ :: _) _ _); (with_reducible apply wpl_storeRH row_flow); (· rfl); (· rfl); (· rfl); (· with_reducible exact flow_cells ..); (· exact H); (· (repeat (first | (with_reducible exact List.mem_cons_self) | with_reducible apply List.mem_cons_of_mem))); (· (simp only [flow_sz, Nat.reduceAdd, Nat.reduceLeDiff, Nat.le_refl]; done)); (· with_reducible exact flow_splice ..); (· (repeat (first | (with_reducible exact Repl.here) | with_reducible apply Repl.there))); (clear H; intro _ H); (simp only [Act.put, List.setIfInBounds_toArray, List.set_cons_zero, List.set_cons_succ]))
          | ((with_reducible show wpList _ _ _ (_ :: _) _ _); (with_reducible apply wpl_loadCH); (· first | exact cell_party | exact cell_i64); (· rfl); (· rfl); (· exact H); (· (repeat (first | (with_reducible exact List.mem_cons_self) | with_reducible apply List.mem_cons_of_mem))); (· (with_reducible first | exact flow_g0 .. | exact flow_g1 .. | exact flow_g2 ..)); (simp only [Act.put, List.setIfInBounds_toArray, List.set_cons_zero, List.set_cons_succ])))
        go_ret
        exact ⟨by rw [decide_eq_false HN.out]; rfl, H.tail⟩
    · obtain rfl : k = n := by omega
      have HN := Lib.hid (show MayD F from by unfold MayD; rw [HL.out]; exact HO.out)
      go_wp2_with (go_skip)
      go_ret
      exact ⟨by rw [decide_eq_true HN.out]; rfl, H⟩
end
end Go.Proofs.YtgobnamhdkbbeaaGreat

/- paths.search: once through all edges. -/
namespace Go.Proofs.YtgobnamhdkbbeaaGreat
open Go.RowKit
set_option linter.unusedSimpArgs false
set_option linter.unusedVariables false
/-- An edge with a cost. -/
structure Edg where
  f : Nat
  t : Nat
  c : Int
def edgV (x : Edg) : List Value := [.int .u8 (x.f : Int), .int .u8 (x.t : Int), .int .i8 x.c]
def edgL (F : List Edg) : List Value := F.flatMap edgV
theorem edgL_len (F : List Edg) : (edgL F).length = F.length * 3 := by
  induction F with
  | nil => rfl
  | cons x F ih => simp only [edgL, List.flatMap_cons, List.length_append] at *; rw [ih]; simp [edgV, Nat.add_mul]; omega
theorem edgL_at (F : List Edg) (i : Nat) (h : i < F.length) : ((edgL F).drop (i * 3)).take 3 = edgV F[i] := by
  induction F generalizing i with
  | nil => simp at h
  | cons x F ih =>
    rcases i with _ | i
    · simp [edgL, edgV]
    · have : (i + 1) * 3 = 3 + i * 3 := by omega
      rw [this, ← List.drop_drop]
      simp only [List.length_cons] at h
      have := ih i (by omega)
      simpa [edgL, edgV] using this
theorem edgL_app (F G : List Edg) : edgL (F ++ G) = edgL F ++ edgL G := by simp [edgL]
/-- Such as can be. -/
def EdgOk (x : Edg) : Prop := x.f ≤ 255 ∧ x.t ≤ 255 ∧ -128 ≤ x.c ∧ x.c ≤ 127
def edg (f : Int) (t : Int) (c : Int) : Array Value := #[.int .u8 f, .int .u8 t, .int .i8 c]
section
variable (f : Int) (t : Int) (c : Int)
theorem edg_sz : (edg f t c).size = 3 := rfl
theorem edg_g0 : (edg f t c)[0]? = some (.int .u8 f) := rfl
theorem edg_g1 : (edg f t c)[1]? = some (.int .u8 t) := rfl
theorem edg_g2 : (edg f t c)[2]? = some (.int .i8 c) := rfl
end
theorem edg_all (f t c : Int) : (edg f t c).extract 0 (0 + 3) = edg f t c := by simp [edg]
theorem edg_cells (f t c : Int) : Cells 3 (edg f t c) := ⟨rfl, by simp [edg, Value.oneCell']⟩
theorem edg_splice (a b d f t c : Int) : splice (edg a b d) 0 (edg f t c) = edg f t c := splice_all rfl
theorem row_edg : RowTy 141 3 (edg 0 0 0) := ⟨⟨_, Tryz.underlying141, rfl⟩, by kernel_rfl, by kernel_rfl⟩
theorem cell_i8 : CellTy 118 := ⟨⟨_, Tryz.underlying118, rfl⟩, by kernel_rfl⟩
/-- A search's cells: distances, and who is ahead. -/
def sr (D : Nat → Int) (P : Nat → Nat) : Array Value := tab 34 fun i => if i < 17 then .int .i64 (D i) else .int .u8 (P (i - 17) : Int)
theorem sr_sz (D : Nat → Int) (P : Nat → Nat) : (sr D P).size = 34 := tab_size ..
theorem sr_getD (D : Nat → Int) (P : Nat → Nat) {i : Nat} (h : i < 17) : (sr D P)[i]? = some (.int .i64 (D i)) := by
  unfold sr
  rw [tab_get _ (by omega), if_pos h]
theorem sr_getP (D : Nat → Int) (P : Nat → Nat) {i : Nat} (h : i < 17) : (sr D P)[17 + i]? = some (.int .u8 (P i : Int)) := by
  unfold sr
  rw [tab_get _ (by omega), if_neg (by omega), Nat.add_sub_cancel_left]
theorem sr_setD (D : Nat → Int) (P : Nat → Nat) {i : Nat} (h : i < 17) (v : Int) : (sr D P).setIfInBounds i (.int .i64 v) = sr (updN D i v) P := by
  unfold sr
  rw [tab_set _ _ (by omega)]
  apply tab_congr
  intro j hj
  unfold updN
  by_cases e : j = i
  · subst e; rw [if_pos rfl, if_pos h, if_pos rfl]
  · rw [if_neg e]
    by_cases e2 : j < 17
    · rw [if_pos e2, if_pos e2, if_neg e]
    · rw [if_neg e2, if_neg e2]
theorem sr_setP (D : Nat → Int) (P : Nat → Nat) {i : Nat} (h : i < 17) (v : Nat) : (sr D P).setIfInBounds (17 + i) (.int .u8 (v : Int)) = sr D (updN P i v) := by
  unfold sr
  rw [tab_set _ _ (by omega)]
  apply tab_congr
  intro j hj
  unfold updN
  by_cases e : j = 17 + i
  · subst e; rw [if_pos rfl, if_neg (by omega), if_pos (by omega)]
  · rw [if_neg e]
    by_cases e2 : j < 17
    · rw [if_pos e2, if_pos e2]
    · rw [if_neg e2, if_neg e2, if_neg (by omega)]
/-- What is known amid a search. -/
structure Srch where
  D : Nat → Int
  P : Nat → Nat
  last : Nat
def relax (s : Srch) (e : Edg) : Srch := if s.D e.f + e.c < s.D e.t then ⟨updN s.D e.t (s.D e.f + e.c), updN s.P e.t e.f, e.t⟩ else s
def onceS (F : List Edg) (s : Srch) : Srch := F.foldl relax ⟨s.D, s.P, 0⟩
theorem relax_yes {s : Srch} {e : Edg} (h : s.D e.f + e.c < s.D e.t) : relax s e = ⟨updN s.D e.t (s.D e.f + e.c), updN s.P e.t e.f, e.t⟩ := if_pos h
theorem relax_no {s : Srch} {e : Edg} (h : ¬ s.D e.f + e.c < s.D e.t) : relax s e = s := if_neg h
/-- Distances within a bound. -/
def Bnd (B : Nat) (s : Srch) : Prop := ∀ i, -(B : Int) ≤ s.D i ∧ s.D i ≤ 0
theorem Bnd.relax {B : Nat} {s : Srch} {e : Edg} (h : Bnd B s) (hc : -128 ≤ e.c) : Bnd (B + 128) (relax s e) := by
  intro i
  unfold Proofs.YtgobnamhdkbbeaaGreat.relax
  have hi := h i
  have hf := h e.f
  have ht := h e.t
  split
  · simp only [updN]
    split
    · omega
    · omega
  · omega
def OnceLoop (W : World) (l : List Thing) (p : Nat) (F : List Edg) (s0 : Srch) (B en : Nat) (v i : Value) (wr : World) : Prop :=
  ∃ (k : Nat) (s : Srch), k ≤ en ∧ i = .int .i64 k ∧ v = .int .u8 (s.last : Int) ∧ onceS F s0 = (F.drop k).foldl relax s ∧ Bnd (B + 128 * k) s ∧ Heap W (Cel p (sr s.D s.P) 147 :: l) wr
section
variable {W w : World} {l : List Thing}
set_option maxRecDepth 100000
set_option maxHeartbeats 4000000
theorem once_H (p : Nat) (ea : Option Addr) (en ec : Nat) (F : List Edg) (hl : F.length = en) (hF : ∀ x ∈ F, x.f < 17 ∧ x.t < 17 ∧ -128 ≤ x.c ∧ x.c ≤ 127) (R : ∀ w', Heap W l w' → Rd w' ea (edgL F)) (s0 : Srch) (B : Nat) (hB : Bnd B s0) (hBn : B + 128 * en ≤ 1000000000000)
    (H : Heap W (Cel p (sr s0.D s0.P) 147 :: l) w) :
    Calls Tryz.prog 89 #[.pointer (some ⟨p, 0, none⟩), .slice ea en ec] w fun e w' => e = .returned (.int .u8 ((onceS F s0).last : Int)) ∧ Heap W (Cel p (sr (onceS F s0).D (onceS F s0).P) 147 :: l) w' := by
  have HL := Lib.hid hl
  have HF := Lib.hid hF
  have HR := Lib.hid R
  have HB := Lib.hid hB
  clear hl hF R hB
  go_enter Tryz.func89, Tryz.ntmps89
  go_wp2_with (go_skip)
  have H0 := H
  clear H
  go_loopw [5, 11] (fun v i wr => OnceLoop W l p F s0 B en v i wr) (fun _ i _ => en - (intOf i).toNat)
  case atStart => exact ⟨0, ⟨s0.D, s0.P, 0⟩, Nat.zero_le _, rfl, rfl, rfl, HB.out, H0⟩
  case round =>
    obtain ⟨k, s, hk, rfl, rfl, hG, hb, H'⟩ := hrel
    clear H0
    have H := H'
    clear H'
    by_cases hlt : k < en
    · have hkF : k < F.length := by rw [HL.out]; exact hlt
      have hok := HF.out F[k] (List.getElem_mem hkF)
      have hat := edgL_at F k hkF
      have hlen : k * 3 + 3 ≤ (edgL F).length := by rw [edgL_len]; omega
      rw [List.drop_eq_getElem_cons hkF, List.foldl_cons] at hG
      generalize F[k] = x at *
      have hb2 := hb.relax (e := x) hok.2.2.1
      obtain ⟨a, b, n⟩ := x
      obtain ⟨h1, h2, h3, h4⟩ := hok
      simp only at h1 h2 h3 h4
      have hrow : (((edgL F).drop (k * 3)).take 3).toArray = edg a b n := by rw [hat]; rfl
      obtain ⟨eb, eo, rfl, _⟩ := (HR.out _ H.tail).lt (by omega)
      have HG := Lib.hid hG
      have HB2 := Lib.hid hb2
      have hba := hb a
      have hbb := hb b
      clear hG hat hkF hb hb2
      have hw1 : wrap64 n = n := IntWalk.wrap64_in _ ⟨by omega, by omega⟩
      have hw2 : wrap64 (s.D a + n) = s.D a + n := IntWalk.wrap64_in _ ⟨by omega, by omega⟩
      go_wp2_with (first
        | go_skip
        | ((with_reducible show wpList _ _ _ (_ :: _) _ _); (with_reducible apply wpl_loadRdR row_edg); (· rfl); (· rfl); (· exact HR.out _ H.tail); (· rfl); (· exact hlen); (· decide); (· exact hrow); (simp only [Act.put, List.setIfInBounds_toArray, List.set_cons_zero, List.set_cons_succ]))
        | ((with_reducible show wpList _ _ _ (_ :: _) _ _); (with_reducible apply wpl_allocRH row_edg); (· rfl); (· exact H); (clear H; intro px _ H); (simp only [Act.put, List.setIfInBounds_toArray, List.set_cons_zero, List.set_cons_succ]))
        | ((with_reducible show wpList _ _ _ (_ :: _) _ _); (with_reducible apply wpl_storeRH row_edg); (· rfl); (· rfl); (· rfl); (· with_reducible exact edg_cells ..); (· exact H); (· (repeat (first | (with_reducible exact List.mem_cons_self) | with_reducible apply List.mem_cons_of_mem))); (· (simp only [edg_sz, Nat.reduceAdd, Nat.reduceLeDiff, Nat.le_refl]; done)); (· with_reducible exact edg_splice ..); (· (repeat (first | (with_reducible exact Repl.here) | with_reducible apply Repl.there))); (clear H; intro _ H); (simp only [Act.put, List.setIfInBounds_toArray, List.set_cons_zero, List.set_cons_succ])))
      refine wp_region_H H (by kernel_rfl) (by kernel_rfl) ?_
      repeat (first | go_big_quiet_skip | ((with_reducible apply wpQ_loadCH); (· first | exact cell_party | exact cell_i8); (· rfl); (· rfl); (· (repeat (first | (with_reducible exact List.mem_cons_self) | with_reducible apply List.mem_cons_of_mem))); (· (with_reducible first | exact edg_g0 .. | exact edg_g1 .. | exact edg_g2 ..)); (simp only [Act.put, List.setIfInBounds_toArray, List.set_cons_zero, List.set_cons_succ])) | ((with_reducible apply wpQ_loadCH); (· exact cell_int); (· rfl); (· rfl); (· (repeat (first | (with_reducible exact List.mem_cons_self) | with_reducible apply List.mem_cons_of_mem))); (· first | exact sr_getD _ _ h1 | exact sr_getD _ _ h2); (simp only [Act.put, List.setIfInBounds_toArray, List.set_cons_zero, List.set_cons_succ])) | go_big_quiet_step (fail))
      refine wpQuiet_nil ?_
      clear H
      intro _ H
      go_wp2_with (go_skip)
      refine wp_region_H H (by kernel_rfl) (by kernel_rfl) ?_
      repeat (first | go_big_quiet_skip | ((with_reducible apply wpQ_loadCH); (· first | exact cell_party | exact cell_i8); (· rfl); (· rfl); (· (repeat (first | (with_reducible exact List.mem_cons_self) | with_reducible apply List.mem_cons_of_mem))); (· (with_reducible first | exact edg_g0 .. | exact edg_g1 .. | exact edg_g2 ..)); (simp only [Act.put, List.setIfInBounds_toArray, List.set_cons_zero, List.set_cons_succ])) | ((with_reducible apply wpQ_loadCH); (· exact cell_int); (· rfl); (· rfl); (· (repeat (first | (with_reducible exact List.mem_cons_self) | with_reducible apply List.mem_cons_of_mem))); (· first | exact sr_getD _ _ h1 | exact sr_getD _ _ h2); (simp only [Act.put, List.setIfInBounds_toArray, List.set_cons_zero, List.set_cons_succ])) | go_big_quiet_step (fail))
      refine wpQuiet_nil ?_
      clear H
      intro _ H
      by_cases hc : s.D a + n < s.D b
      · have HC := Lib.hid (relax_yes (s := s) (e := ⟨a, b, n⟩) hc)
        go_wp2_with (go_skip)
        replace H := H.perm (.swap _ _ _)
        refine wp_region_O [14, 18] [0, 1, 2, 3, 4, 5, 6, 7, 8, 9, 10, 11, 12, 13, 15, 16, 14, 17, 18, 19] (fun l0 => ∃ pre, l0 = pre ++ (Cel px (edg a b n) 141 :: l)) H ⟨[_], rfl⟩ (by kernel_rfl) (by kernel_rfl) ?_
        iterate 16 (apply wpO_step; (· rfl); (· rfl); (· rfl); (· exact Nat.le_of_ble_eq_true rfl); (· rintro l0 ⟨pre, rfl⟩ w0 H0; (first | go_big_quiet_skip | ((with_reducible apply wpQ_loadCH); (· first | exact cell_party | exact cell_i8); (· rfl); (· rfl); (· ((refine List.mem_append_right _ ?_); (repeat (first | (with_reducible exact List.mem_cons_self) | with_reducible apply List.mem_cons_of_mem)))); (· (with_reducible first | exact edg_g0 .. | exact edg_g1 .. | exact edg_g2 ..)); (simp only [Act.put, List.setIfInBounds_toArray, List.set_cons_zero, List.set_cons_succ])) | go_big_quiet_step (fail)); (refine wpQuiet_nil ?_); (simp only [Array.getD_eq_getD_getElem?, List.getElem?_toArray, List.getElem?_cons_succ, List.getElem?_cons_zero, Option.getD_some]; rfl)); (simp only [Act.put, List.setIfInBounds_toArray, List.set_cons_zero, List.set_cons_succ]))
        ((with_reducible apply wpO_storeI); (· exact cell_int); (· rfl); (· rfl); (· rfl); (· rfl); (· rfl); (· (repeat (first | (with_reducible exact List.mem_cons_self) | with_reducible apply List.mem_cons_of_mem))); (· (rw [sr_sz]; omega)); (· exact sr_setD _ _ h2 _); (· (repeat (first | (with_reducible exact Repl.here) | with_reducible apply Repl.there))); (· exact ⟨[_], rfl⟩); (simp only [Act.put, List.setIfInBounds_toArray, List.set_cons_zero, List.set_cons_succ]))
        (apply wpO_step; (· rfl); (· rfl); (· rfl); (· exact Nat.le_of_ble_eq_true rfl); (· rintro l0 ⟨pre, rfl⟩ w0 H0; (first | go_big_quiet_skip | fail | go_big_quiet_step (fail)); (refine wpQuiet_nil ?_); (simp only [Array.getD_eq_getD_getElem?, List.getElem?_toArray, List.getElem?_cons_succ, List.getElem?_cons_zero, Option.getD_some]; rfl)); (simp only [Act.put, List.setIfInBounds_toArray, List.set_cons_zero, List.set_cons_succ]))
        ((with_reducible apply wpO_storeI); (· exact cell_party); (· rfl); (· rfl); (· rfl); (· rfl); (· rfl); (· (repeat (first | (with_reducible exact List.mem_cons_self) | with_reducible apply List.mem_cons_of_mem))); (· (rw [sr_sz]; omega)); (· exact sr_setP _ _ h2 _); (· (repeat (first | (with_reducible exact Repl.here) | with_reducible apply Repl.there))); (· exact ⟨[_], rfl⟩); (simp only [Act.put, List.setIfInBounds_toArray, List.set_cons_zero, List.set_cons_succ]))
        (apply wpO_step; (· rfl); (· rfl); (· rfl); (· exact Nat.le_of_ble_eq_true rfl); (· rintro l0 ⟨pre, rfl⟩ w0 H0; (first | go_big_quiet_skip | fail | go_big_quiet_step (fail)); (refine wpQuiet_nil ?_); (simp only [Array.getD_eq_getD_getElem?, List.getElem?_toArray, List.getElem?_cons_succ, List.getElem?_cons_zero, Option.getD_some]; rfl)); (simp only [Act.put, List.setIfInBounds_toArray, List.set_cons_zero, List.set_cons_succ]))
        (refine wpO_nil ?_; clear H; intro _ H)
        go_wp2_with (go_skip)
        refine ⟨⟨k + 1, _, by omega, by go_num, ?_, HG.out, ?_, ?_⟩, ?measure⟩
        · rw [HC.out]
        · have := HB2.out
          rw [show B + 128 * (k + 1) = B + 128 * k + 128 by omega]
          exact this
        · rw [HC.out]
          exact H.drop (.there .here)
        case measure => simp [intOf]; omega
      · have HC := Lib.hid (relax_no (s := s) (e := ⟨a, b, n⟩) hc)
        go_wp2_with (go_skip)
        refine ⟨⟨k + 1, _, by omega, by go_num, ?_, HG.out, ?_, ?_⟩, ?measure2⟩
        · rw [HC.out]
        · have := HB2.out
          rw [show B + 128 * (k + 1) = B + 128 * k + 128 by omega]
          exact this
        · rw [HC.out]
          exact H.tail
        case measure2 => simp [intOf]; omega
    · obtain rfl : k = en := by omega
      rw [List.drop_of_length_le (by rw [HL.out]; omega)] at hG
      have HG := Lib.hid hG
      clear hG
      go_wp2_with (go_skip)
      go_ret
      rw [HG.out]
      exact ⟨rfl, H⟩
end
end Go.Proofs.YtgobnamhdkbbeaaGreat

/- slices' functions of parties: Index, Min. -/
namespace Go.Proofs.YtgobnamhdkbbeaaGreat
open Go.RowKit
set_option linter.unusedSimpArgs false
set_option linter.unusedVariables false
theorem rd_party {w : World} {g o k x : Nat} {L : List Nat} (R : Rd w (some ⟨g, o, none⟩) (L.map pv)) (h : L[k]? = some x) : w.cell? ⟨g, o + k, none⟩ = some (.int .u8 (x : Int)) := by
  obtain ⟨hk, hx⟩ := List.getElem?_eq_some_iff.1 h
  obtain ⟨b, o', he, hc⟩ := R k (by simpa using hk)
  cases he
  rw [hc]
  simp [pv, hx]
theorem idxOf_le_at {x : Nat} : ∀ {L : List Nat} {k : Nat} (h : k < L.length), L[k] = x → L.idxOf x ≤ k
  | [], _, h, _ => by simp at h
  | y :: L, 0, h, e => by simp at e; subst e; simp
  | y :: L, k + 1, h, e => by
    rw [List.idxOf_cons]
    have := idxOf_le_at (L := L) (k := k) (by simpa using h) (by simpa using e)
    cases y == x <;> simp <;> omega
def minT (L : List Nat) (k : Nat) : Nat := (L.take k).foldl min (L.headD 0)
def minL (L : List Nat) : Nat := L.foldl min (L.headD 0)
theorem minT_succ {L : List Nat} {k x : Nat} (h : L[k]? = some x) : minT L (k + 1) = min (minT L k) x := by
  unfold minT
  rw [List.take_add_one, h]
  simp
theorem minT_all (L : List Nat) {k : Nat} (h : L.length ≤ k) : minT L k = minL L := by
  unfold minT minL
  rw [List.take_of_length_le h]
theorem minT_one {L : List Nat} {x : Nat} (h : L[0]? = some x) : minT L 1 = x := by
  cases L with
  | nil => simp at h
  | cons y L => simp at h; subst h; simp [minT]
section
variable {W w : World} {l : List Thing}
set_option maxRecDepth 100000
set_option maxHeartbeats 2000000
theorem index_H (g o n c : Nat) (L : List Nat) (x : Nat) (hl : L.length = n) (hn : n ≤ 9223372036854775807) (hL : ∀ y ∈ L, y ≤ 255) (hx : x ∈ L) (R : ∀ w', Heap W l w' → Rd w' (some ⟨g, o, none⟩) (L.map pv)) :
    AnsH W l 91 #[.slice (some ⟨g, o, none⟩) n c, .int .u8 (x : Int)] (.int .i64 (L.idxOf x : Int)) := by
  intro w H
  have hi : L.idxOf x < n := by rw [← hl]; exact List.idxOf_lt_length_of_mem hx
  have HR := Lib.hid R
  have HL := Lib.hid hl
  have HLs := Lib.hid hL
  have HX := Lib.hid hx
  clear R hl hL hx
  go_enter Tryz.func91, Tryz.ntmps91
  go_wp2_with (go_skip)
  have H0 := H
  clear H
  go_loopw [8] (fun i wr => ∃ k : Nat, k ≤ L.idxOf x ∧ i = .int .i64 k ∧ Heap W l wr) (fun i _ => n - (intOf i).toNat)
  case atStart => exact ⟨0, Nat.zero_le _, rfl, H0⟩
  case round =>
    obtain ⟨k, hk, rfl, H'⟩ := hrel
    clear H0
    have H := H'
    clear H'
    have hkn : k < n := by omega
    have hkL : k < L.length := by rw [HL.out]; exact hkn
    have hg : L[k]? = some L[k] := List.getElem?_eq_getElem hkL
    have hy := HLs.out L[k] (List.getElem_mem hkL)
    by_cases he : k = L.idxOf x
    · have hgx : L[k]? = some x := by
        rw [hg]
        have h1 : L.idxOf x < L.length := by rw [← he]; exact hkL
        have h2 := List.getElem_idxOf h1
        congr 1
        rw [← h2]
        congr 1
      have HE := Lib.hid he
      clear he hg hy
      go_wp2_with (first
        | go_skip
        | ((with_reducible show wpList _ _ _ (_ :: _) _ _); (with_reducible apply wpl_loadCell cell_party); (· rfl); (· rfl); (· exact rd_party (HR.out _ H) hgx); (simp only [Act.put, List.setIfInBounds_toArray, List.set_cons_zero, List.set_cons_succ])))
      go_ret
      rw [HE.out]
      exact ⟨rfl, H⟩
    · have hne : L[k] ≠ x := fun e => by
        have h1 := idxOf_le_at hkL e
        omega
      generalize L[k] = y at *
      have e1 : ((x : Int) == (y : Int)) = false := by simp; omega
      have e2 : decide ((x : Int) = (y : Int)) = false := by simp; omega
      have HE := Lib.hid he
      clear he
      go_wp2_with (first
        | go_skip
        | ((with_reducible show wpList _ _ _ (_ :: _) _ _); (with_reducible apply wpl_loadCell cell_party); (· rfl); (· rfl); (· exact rd_party (HR.out _ H) hg); (simp only [Act.put, List.setIfInBounds_toArray, List.set_cons_zero, List.set_cons_succ])))
      go_roundw
      case rel => exact ⟨k + 1, by have := HE.out; omega, by go_num, H⟩
      case measure => simp [intOf]; omega
theorem min_H (g o n c : Nat) (L : List Nat) (hl : L.length = n) (h1 : 1 ≤ n) (hn : n ≤ 9223372036854775807) (hL : ∀ y ∈ L, y ≤ 255) (R : ∀ w', Heap W l w' → Rd w' (some ⟨g, o, none⟩) (L.map pv)) :
    AnsH W l 92 #[.slice (some ⟨g, o, none⟩) n c] (.int .u8 (minL L : Int)) := by
  intro w H
  have HR := Lib.hid R
  have HL := Lib.hid hl
  have HLs := Lib.hid hL
  have h0 : 0 < L.length := by omega
  have hg0 : L[0]? = some L[0] := List.getElem?_eq_getElem h0
  have HM := Lib.hid (minT_one hg0)
  have hx0 := hL _ (List.getElem_mem h0)
  generalize L[0] = x0 at *
  clear R hl hL h0
  go_enter Tryz.func92, Tryz.ntmps92
  go_wp2_with (first
    | go_skip
    | ((with_reducible show wpList _ _ _ (_ :: _) _ _); (with_reducible apply wpl_loadCell cell_party); (· rfl); (· rfl); (· exact rd_party (HR.out _ H) hg0); (simp only [Act.put, List.setIfInBounds_toArray, List.set_cons_zero, List.set_cons_succ])))
  have H0 := H
  clear H
  go_loopw [3, 4] (fun v i wr => ∃ k : Nat, 1 ≤ k ∧ k ≤ n ∧ i = .int .i64 k ∧ v = .int .u8 (minT L k : Int) ∧ Heap W l wr) (fun _ i _ => n - (intOf i).toNat)
  case atStart => exact ⟨1, Nat.le_refl _, h1, rfl, by rw [HM.out], H0⟩
  case round =>
    obtain ⟨k, hk1, hkn, rfl, rfl, H'⟩ := hrel
    clear H0
    have H := H'
    clear H'
    by_cases hlt : k < n
    · have hkL : k < L.length := by rw [HL.out]; exact hlt
      have hg : L[k]? = some L[k] := List.getElem?_eq_getElem hkL
      have hy := HLs.out L[k] (List.getElem_mem hkL)
      have HS := Lib.hid (minT_succ hg)
      generalize L[k] = y at *
      go_wp2_with (first
        | go_skip
        | ((with_reducible show wpList _ _ _ (_ :: _) _ _); (with_reducible apply wpl_loadCell cell_party); (· rfl); (· rfl); (· exact rd_party (HR.out _ H) hg); (simp only [Act.put, List.setIfInBounds_toArray, List.set_cons_zero, List.set_cons_succ])))
      refine ⟨⟨k + 1, by omega, by omega, by go_num, ?_, H⟩, ?measure⟩
      · rw [HS.out]
        first
          | (by_cases hc : y < minT L k
             · rw [if_pos hc, Nat.min_eq_right (by omega)]
             · rw [if_neg hc, Nat.min_eq_left (by omega)])
          | (congr 1; omega)
      case measure => simp [intOf]; omega
    · obtain rfl : k = n := by omega
      have HA := Lib.hid (minT_all L (k := k) (by rw [HL.out]; omega))
      go_wp2_with (go_skip)
      go_ret
      rw [HA.out]
      exact ⟨rfl, H⟩
end
end Go.Proofs.YtgobnamhdkbbeaaGreat

/- A region that draws its order, with loud operations in one order, whose reads may be of what the loud ones change: a read that every loud one stands behind reads the things as they are (a swap: s[i], s[j] = s[j], s[i]). -/
namespace Go.Proofs.YtgobnamhdkbbeaaGreat
open Go.RowKit
set_option linter.unusedVariables false
section
variable {P : Program} {ops : Array Oper} {md : Region.Mode} {W : World} {G : List Thing → Prop} {loud : List Nat}
def WholeE (P : Program) (md : Region.Mode) (ops : Array Oper) (W : World) (G : List Thing → Prop) (loud : List Nat) (K : List Thing → Act → Prop) : Nat → List Thing → Array Bool → Act → Prop
  | 0, l, listed, a => Region.ready md ops listed = [] ∧ K l a
  | f + 1, l, listed, a => Region.ready md ops listed ≠ [] ∧ ∀ i ∈ Region.ready md ops listed, ∃ o, ops[i]? = some o ∧
      ((∃ v, YieldsG P ops W (fun l' => l' = l) o v a ∧ WholeE P md ops W G loud K f l (listed.setIfInBounds i true) (a.put o.dst v)) ∨
       (loud.contains i = true ∧ LoudG P ops W o l a fun l' u => G l' ∧ WholeE P md ops W G loud K f l' (listed.setIfInBounds i true) (a.put o.dst u)))
theorem WholeE.any {K : List Thing → Act → Prop} {Q : Exit → Act → World → Prop} (hK : ∀ l a w, Heap W l w → K l a → Q .normal a w) :
    ∀ (f : Nat) (l : List Thing) (listed : Array Bool) (a : Act) (w : World), Heap W l w → WholeE P md ops W G loud K f l listed a → wpAny P md ops Q f listed a w := by
  intro f
  induction f with
  | zero => intro l listed a w H h; exact ⟨h.1, hK _ _ _ H h.2⟩
  | succ f ih =>
    intro l listed a w H h
    refine ⟨fun h0 => absurd h0 h.1, fun i hi => ?_⟩
    obtain ⟨o, ho, h⟩ := h.2 i hi
    rcases h with ⟨v, hy, h⟩ | ⟨_, h⟩
    · refine wpOp_of_qOp (C := fun w' => ∃ d, w' = H.any d) (H.any_of H) (fun a' w' hw' ha' => ?_) ((hy l rfl w H).qOp ho (K := fun a' => a' = a.put o.dst v) rfl)
      obtain ⟨d, rfl⟩ := hw'
      subst ha'
      exact ih _ _ _ _ (H.any_heap d) h
    · obtain ⟨l', u, w', hr, H', _, hk⟩ := h.2 w H
      unfold wpOp
      simp only [ho]
      rw [if_pos h.1]
      refine .inl ?_
      unfold Oper.wp
      rcases hr with hr | ⟨hr, rfl⟩ <;> rw [hr] <;> exact ih _ _ _ _ H' hk
/-- Every loud one stands behind it. -/
def Region.early (md : Region.Mode) (ops : Array Oper) (loud : List Nat) (k : Nat) : Bool := loud.all fun j => match ops[j]? with
  | some o => o.after.any fun e => Region.binds md e && e.on == k
  | none => true
theorem Region.early_spec {k j : Nat} {o : Oper} (h : Region.early md ops loud k = true) (hj : loud.contains j = true) (ho : ops[j]? = some o) : ∃ e ∈ o.after, Region.binds md e = true ∧ e.on = k := by
  unfold Region.early at h
  rw [List.all_eq_true] at h
  have := h j (by simpa using hj)
  rw [ho] at this
  simp only [Array.any_eq_true, Bool.and_eq_true, beq_iff_eq] at this
  obtain ⟨i, hi, h1, h2⟩ := this
  exact ⟨o.after[i], Array.getElem_mem hi, h1, h2⟩
/-- It yields v: whatever the things, or early, as they are. -/
def Firm (P : Program) (md : Region.Mode) (ops : Array Oper) (W : World) (G : List Thing → Prop) (loud : List Nat) (k : Nat) (l : List Thing) (o : Oper) (v : Value) (a : Act) : Prop :=
  (G l ∧ YieldsG P ops W G o v a) ∨ (Region.early md ops loud k = true ∧ YieldsG P ops W (fun l' => l' = l) o v a)
theorem Firm.now {k : Nat} {l : List Thing} {o : Oper} {v : Value} {a : Act} (h : Firm P md ops W G loud k l o v a) : YieldsG P ops W (fun l' => l' = l) o v a := by
  rcases h with ⟨hg, h⟩ | ⟨_, h⟩
  · intro l' e w H; subst e; exact h _ hg w H
  · exact h
theorem Firm.of_same {k : Nat} {l : List Thing} {o : Oper} {v : Value} {a a' : Act} (h : Firm P md ops W G loud k l o v a) (he : execOp a'.eval o = execOp a.eval o)
    (hw : Region.wanted o (yielded ops a'.tmps) = Region.wanted o (yielded ops a.tmps)) : Firm P md ops W G loud k l o v a' := by
  rcases h with ⟨hg, h⟩ | ⟨h0, h⟩
  · exact .inl ⟨hg, h.of_same he hw⟩
  · exact .inr ⟨h0, h.of_same he hw⟩
theorem WholeE.first {i : Nat} {oi : Oper} {v : Value} {K : List Thing → Act → Prop} (hi : ops[i]? = some oi) (hsel : ∀ (j : Nat) (o : Oper) cs b, ops[j]? = some o → o.op ≠ .select cs b) :
    ∀ (f : Nat) (l : List Thing) (listed : Array Bool) (a : Act),
      (∀ j oj, ops[j]? = some oj → j ≠ i → listed.getD j true = false → (∀ e ∈ oj.after, Region.binds md e = true → e.on ≠ i) → oi.apart ops oj = true) →
      i ∈ Region.ready md ops listed → Firm P md ops W G loud i l oi v a → WholeE P md ops W G loud K f l (listed.setIfInBounds i true) (a.put oi.dst v) → WholeE P md ops W G loud K (f + 1) l listed a := by
  intro f
  induction f with
  | zero =>
    intro l listed a _ hr hy H
    refine ⟨fun h => by rw [h] at hr; simp at hr, fun j hj => ?_⟩
    by_cases e : j = i
    · subst e; exact ⟨oi, hi, .inl ⟨v, hy.now, H⟩⟩
    · have := ready_mono hj e
      rw [H.1] at this; cases this
  | succ f ih =>
    intro l listed a hfree hr hy H
    have hun := (mem_ready.1 hr).1
    refine ⟨fun h => by rw [h] at hr; simp at hr, fun j hj => ?_⟩
    by_cases e : j = i
    · subst e; exact ⟨oi, hi, .inl ⟨v, hy.now, H⟩⟩
    · obtain ⟨hjun, oj, hoj, hall⟩ := mem_ready.1 hj
      have hnot : ∀ e ∈ oj.after, Region.binds md e = true → e.on ≠ i := fun e he hb heq => by
        have := hall e he hb
        rw [heq, getD_both hun] at this
        cases this
      obtain ⟨h1, h2, h3⟩ := Oper.apart_spec (hfree j oj hoj e hjun hnot)
      have hsi := fun cs b => hsel i oi cs b hi
      have hsj := fun cs b => hsel j oj cs b hoj
      have hfree' : ∀ k ok, ops[k]? = some ok → k ≠ i → (listed.setIfInBounds j true).getD k true = false →
          (∀ e ∈ ok.after, Region.binds md e = true → e.on ≠ i) → oi.apart ops ok = true := fun k ok hk hki hun hno => by
        refine hfree k ok hk hki ?_ hno
        by_cases hjk : j = k
        · subst hjk; exact hjun
        · rw [getD_set_ne true hjk] at hun; exact hun
      obtain ⟨o', ho', h⟩ := H.2 j (ready_mono hj e)
      obtain rfl : o' = oj := Option.some.inj (ho'.symm.trans hoj)
      refine ⟨o', hoj, ?_⟩
      rcases h with ⟨u, hu, h⟩ | ⟨hl, h⟩
      · refine .inl ⟨u, hu.of_same (execOp_put o' hsj a oi.dst v h1).symm (wanted_put o' a oi.dst v h1).symm, ih _ _ _ hfree' (ready_mono hr (Ne.symm e)) (hy.of_same (execOp_put oi hsi a o'.dst u h3) (wanted_put oi a o'.dst u h3)) ?_⟩
        rw [Array.setIfInBounds_comm _ _ e, ← Act.put_comm a v _ h2]
        exact h
      · rcases hy with ⟨hg, hy⟩ | ⟨he, _⟩
        · refine .inr ⟨hl, (h.of_same (execOp_put o' hsj a oi.dst v h1).symm (wanted_put o' a oi.dst v h1).symm).mono fun l' u ⟨hg', h⟩ => ⟨hg', ih _ _ _ hfree' (ready_mono hr (Ne.symm e)) (.inl ⟨hg', hy.of_same (execOp_put oi hsi a o'.dst u h3) (wanted_put oi a o'.dst u h3)⟩) ?_⟩⟩
          rw [Array.setIfInBounds_comm _ _ e, ← Act.put_comm a v _ h2]
          exact h
        · obtain ⟨ed, hed, hb, hon⟩ := Region.early_spec he hl hoj
          exact absurd hon (hnot ed hed hb)
/-- The walk in an order of one's own. -/
def wpE (P : Program) (ops : Array Oper) (W : World) (G : List Thing → Prop) (loud : List Nat) (K : List Thing → Act → Prop) : List Nat → List Thing → Act → Prop
  | [], l, a => K l a
  | k :: ks, l, a => ∃ o, ops[k]? = some o ∧ if loud.contains k then LoudG P ops W o l a fun l' u => G l' ∧ wpE P ops W G loud K ks l' (a.put o.dst u)
      else ∃ v, Firm P .any ops W G loud k l o v a ∧ wpE P ops W G loud K ks l (a.put o.dst v)
theorem WholeE.lexO {K : List Thing → Act → Prop} (hsel : Region.noSelect ops = true) :
    ∀ (ks : List Nat) (l : List Thing) (listed : Array Bool) (a : Act), Region.lexO .any ops loud ks listed = true → wpE P ops W G loud K ks l a → WholeE P .any ops W G loud K ks.length l listed a := by
  intro ks
  induction ks with
  | nil => intro l listed a hB h; exact ⟨by simpa [Region.lexO] using hB, h⟩
  | cons k ks ih =>
    intro l listed a hB h
    obtain ⟨o, h0, h⟩ := h
    rw [Region.lexO] at hB
    simp only [Bool.and_eq_true] at hB
    obtain ⟨hB, hB'⟩ := hB
    by_cases hk : loud.contains k = true
    · rw [if_pos hk] at h hB
      have hr : Region.ready .any ops listed = [k] := by simpa using hB
      refine ⟨by rw [hr]; simp, fun i hi => ?_⟩
      rw [hr] at hi
      obtain rfl : i = k := by simpa using hi
      exact ⟨o, h0, .inr ⟨hk, h.mono fun l' u ⟨hg, h⟩ => ⟨hg, ih _ _ _ hB' h⟩⟩⟩
    · rw [if_neg hk] at h hB
      simp only [Bool.and_eq_true] at hB
      obtain ⟨v, hy, h⟩ := h
      exact WholeE.first h0 (Region.noSelect_spec hsel) ks.length l listed a (Region.free_spec h0 hB.2) (by simpa using hB.1) hy (ih _ _ _ hB' h)
theorem wp_region_E {id : Nat} {Q : Exit → Act → World → Prop} {a : Act} {w : World} {l : List Thing} {lo : List Oper} (loud ord : List Nat) (G : List Thing → Prop) (H : Heap W l w) (hm : P.follows .mixedOrders = true) (hB : Region.lexOB lo.toArray loud ord = true)
    (h : wpE P lo.toArray W G loud (fun l' a' => ∀ w', Heap W l' w' → Q .normal a' w') ord l a) : (Code.region id lo.toArray true).wp P Q a w := by
  simp only [Region.lexOB, Bool.and_eq_true, beq_iff_eq] at hB
  refine wp_region_any hm ?_
  have := WholeE.lexO hB.1.1 ord l _ a hB.1.2 h
  have h2 := WholeE.any (Q := Q) (fun l a w H h => h w H) ord.length l _ a _ H.drew this
  rw [hB.2] at h2
  exact h2
theorem wpE_nil {K : List Thing → Act → Prop} {l : List Thing} {a : Act} (h : K l a) : wpE P ops W G loud K [] l a := h
theorem yields_of {G' : List Thing → Prop} {lo : List Oper} {o : Oper} {a : Act} {s : Nat} {v : Value} (hd : o.dst = some s) (hlt : s < a.tmps.size)
    (h1 : ∀ l0, G' l0 → ∀ (w0 : World) (H0 : Heap W l0 w0), wpQuiet P lo.toArray (fun w' => ∃ d, w' = H0.any d) (fun a' => a'.tmps.getD s undef = v) [o] a) : YieldsG P lo.toArray W G' o v a := by
  have inj : ∀ u, (a.put o.dst u).tmps.getD s undef = v → u = v := fun u h => by
    rw [hd] at h
    simp [Act.put, hlt] at h
    exact h
  intro l0 hl0 w0 H0
  have h := h1 l0 hl0 w0 H0
  unfold wpQuiet at h
  by_cases hw : Region.wanted o (yielded lo.toArray a.tmps) = true
  · rw [if_pos hw] at h
    obtain ⟨u, hu, hk⟩ := h
    obtain rfl := inj u hk
    exact .inl ⟨hw, hu⟩
  · rw [if_neg hw] at h
    exact .inr ⟨by simpa using hw, (inj undef h).symm⟩
/-- A quiet one that reads nothing of the things. -/
theorem wpE_step {lo : List Oper} {K : List Thing → Act → Prop} {o : Oper} {k : Nat} {ks : List Nat} {l : List Thing} {a : Act} {s : Nat} {v : Value} (ho : lo[k]? = some o) (hk : loud.contains k = false) (hd : o.dst = some s) (hlt : s < a.tmps.size)
    (h1 : ∀ l0, True → ∀ (w0 : World) (H0 : Heap W l0 w0), wpQuiet P lo.toArray (fun w' => ∃ d, w' = H0.any d) (fun a' => a'.tmps.getD s undef = v) [o] a) (h2 : wpE P lo.toArray W (fun _ => True) loud K ks l (a.put o.dst v)) : wpE P lo.toArray W (fun _ => True) loud K (k :: ks) l a := by
  refine ⟨o, by simpa using ho, ?_⟩
  rw [if_neg (by rw [hk]; exact Bool.false_ne_true)]
  exact ⟨v, .inl ⟨trivial, yields_of hd hlt h1⟩, h2⟩
/-- An early read. -/
theorem wpE_early {lo : List Oper} {K : List Thing → Act → Prop} {o : Oper} {k : Nat} {ks : List Nat} {l : List Thing} {a : Act} {s : Nat} {v : Value} (ho : lo[k]? = some o) (hk : loud.contains k = false) (he : Region.early .any lo.toArray loud k = true) (hd : o.dst = some s) (hlt : s < a.tmps.size)
    (h1 : ∀ (w0 : World) (H0 : Heap W l w0), wpQuiet P lo.toArray (fun w' => ∃ d, w' = H0.any d) (fun a' => a'.tmps.getD s undef = v) [o] a) (h2 : wpE P lo.toArray W G loud K ks l (a.put o.dst v)) : wpE P lo.toArray W G loud K (k :: ks) l a := by
  refine ⟨o, by simpa using ho, ?_⟩
  rw [if_neg (by rw [hk]; exact Bool.false_ne_true)]
  exact ⟨v, .inr ⟨he, yields_of hd hlt fun l0 e w0 H0 => by subst e; exact h1 w0 H0⟩, h2⟩
theorem wpE_loud {lo : List Oper} {K : List Thing → Act → Prop} {o : Oper} {k : Nat} {ks : List Nat} {l : List Thing} {a : Act} (ho : lo[k]? = some o) (hk : loud.contains k = true) (h : LoudG P lo.toArray W o l a fun l' u => G l' ∧ wpE P lo.toArray W G loud K ks l' (a.put o.dst u)) : wpE P lo.toArray W G loud K (k :: ks) l a := by
  refine ⟨o, by simpa using ho, ?_⟩
  rw [if_pos hk]
  exact h
end
section
variable {ops : Array Oper} {W : World} {loud : List Nat} {K : List Thing → Act → Prop} {l : List Thing} {a : Act}
theorem wpE_storeC {lo : List Oper} {ks : List Nat} {k : Nat} {T : TypeId} {dst : Option Tmp} {ty : TypeId} {pos : String} {after : Array Edge} {guard : Option (Nat × Bool)} {x y : Operand} {b off : Nat} {v : Value} (CT : CellTy T) (ho : lo[k]? = some ⟨dst, .store T x y, ty, pos, after, guard⟩) (hk : loud.contains k = true) (hw : Region.wanted ⟨dst, .store T x y, ty, pos, after, guard⟩ (yielded lo.toArray a.tmps) = true) (hx : a.eval x = .pointer (some ⟨b, off, none⟩)) (hy : a.eval y = v) (hc : v.cells = #[v] ∧ v.oneCell' = true)
    {c c1 : Array Value} {t : TypeId} {l' : List Thing} (m : Cel b c t ∈ l) (hn : off < c.size) (hs : c.setIfInBounds off v = c1) (r : Repl l (Cel b c t) (Cel b c1 t) l')
    (h : wpE Tryz.prog lo.toArray W (fun _ => True) loud K ks l' (a.put dst undef)) : wpE Tryz.prog lo.toArray W (fun _ => True) loud K (k :: ks) l a := by
  subst hs
  refine wpE_loud ho hk ⟨hw, fun w H => ⟨l', undef, setBlk w b (c.setIfInBounds off v), .inr ⟨?_, rfl⟩, H.set r, trivial, h⟩⟩
  unfold execOp
  simp only [hx, hy, Sem.run_bind, run_storeC CT hc (H.blk m) hn, Result.andThen_ok]
  rfl
theorem wpE_storeI {lo : List Oper} {ks : List Nat} {k : Nat} {T : TypeId} {dst : Option Tmp} {ty : TypeId} {pos : String} {after : Array Edge} {guard : Option (Nat × Bool)} {x y : Operand} {b off : Nat} {k0 : IntKind} {n0 : Int} (CT : CellTy T) (ho : lo[k]? = some ⟨dst, .store T x y, ty, pos, after, guard⟩) (hk : loud.contains k = true) (hw : Region.wanted ⟨dst, .store T x y, ty, pos, after, guard⟩ (yielded lo.toArray a.tmps) = true) (hx : a.eval x = .pointer (some ⟨b, off, none⟩)) (hy : a.eval y = .int k0 n0)
    {c c1 : Array Value} {t : TypeId} {l' : List Thing} (m : Cel b c t ∈ l) (hn : off < c.size) (hs : c.setIfInBounds off (.int k0 n0) = c1) (r : Repl l (Cel b c t) (Cel b c1 t) l')
    (h : wpE Tryz.prog lo.toArray W (fun _ => True) loud K ks l' (a.put dst undef)) : wpE Tryz.prog lo.toArray W (fun _ => True) loud K (k :: ks) l a := wpE_storeC CT ho hk hw hx hy ⟨rfl, rfl⟩ m hn hs r h
end
end Go.Proofs.YtgobnamhdkbbeaaGreat

/- slices.Reverse of parties. -/
namespace Go.Proofs.YtgobnamhdkbbeaaGreat
open Go.RowKit
set_option linter.unusedSimpArgs false
set_option linter.unusedVariables false
/-- A block that begins with these parties. -/
def pc (L : List Nat) (r : List Value) : Array Value := (L.map pv ++ r).toArray
theorem pc_sz (L : List Nat) (r : List Value) : (pc L r).size = L.length + r.length := by simp [pc]
theorem pc_get {L : List Nat} {r : List Value} {k x : Nat} (h : L[k]? = some x) : (pc L r)[k]? = some (.int .u8 (x : Int)) := by
  obtain ⟨hk, hx⟩ := List.getElem?_eq_some_iff.1 h
  unfold pc
  rw [List.getElem?_toArray, List.getElem?_append_left (by simpa using hk), List.getElem?_map, h]
  rfl
theorem pc_set {L : List Nat} {r : List Value} {k : Nat} (x : Nat) (h : k < L.length) : (pc L r).setIfInBounds k (.int .u8 (x : Int)) = pc (L.set k x) r := by
  unfold pc
  rw [List.setIfInBounds_toArray, List.set_append_left _ _ (by simpa using h)]
  congr 2
  rw [List.map_set]
  rfl
/-- Amid the turning: i from each end are changed. -/
def Turned (L M : List Nat) (i : Nat) : Prop := M.length = L.length ∧ ∀ k, k < L.length → M[k]? = if k < i ∨ L.length < k + 1 + i then L[L.length - 1 - k]? else L[k]?
theorem Turned.start (L : List Nat) : Turned L L 0 := ⟨rfl, fun k hk => by rw [if_neg (by omega)]⟩
theorem Turned.low {L M : List Nat} {i : Nat} (h : Turned L M i) (hi : i + i + 1 < L.length) : M[i]? = L[i]? := by
  rw [h.2 i (by omega), if_neg (by omega)]
theorem Turned.high {L M : List Nat} {i : Nat} (h : Turned L M i) (hi : i + i + 1 < L.length) : M[L.length - 1 - i]? = L[L.length - 1 - i]? := by
  rw [h.2 _ (by omega), if_neg (by omega)]
theorem Turned.step {L M : List Nat} {i x y : Nat} (h : Turned L M i) (hi : i + i + 1 < L.length) (hx : L[i]? = some x) (hy : L[L.length - 1 - i]? = some y) : Turned L ((M.set i y).set (L.length - 1 - i) x) (i + 1) := by
  refine ⟨by simp [h.1], fun k hk => ?_⟩
  by_cases e1 : k = L.length - 1 - i
  · subst e1
    rw [List.getElem?_set_self (by simp [h.1]; omega), if_pos (by omega), show L.length - 1 - (L.length - 1 - i) = i by omega, hx]
  · rw [List.getElem?_set_ne (Ne.symm e1)]
    by_cases e2 : k = i
    · subst e2
      rw [List.getElem?_set_self (by rw [h.1]; omega), if_pos (by omega), hy]
    · rw [List.getElem?_set_ne (Ne.symm e2), h.2 k hk]
      by_cases e3 : k < i ∨ L.length < k + 1 + i
      · rw [if_pos e3, if_pos (by omega)]
      · rw [if_neg e3, if_neg (by omega)]
theorem Turned.done {L M : List Nat} {i : Nat} (h : Turned L M i) (hi : L.length ≤ i + i + 1) : M = L.reverse := by
  apply List.ext_getElem?
  intro k
  by_cases hk : k < L.length
  · rw [h.2 k hk, List.getElem?_reverse hk]
    by_cases e : k < i ∨ L.length < k + 1 + i
    · rw [if_pos e]
    · rw [if_neg e, show L.length - 1 - k = k by omega]
  · rw [List.getElem?_eq_none (by rw [h.1]; omega), List.getElem?_eq_none (by simp; omega)]
structure RevLoop (W : World) (l : List Thing) (g : Nat) (L : List Nat) (r : List Value) (vi vj : Value) (wr : World) : Prop where
  out : ∃ (i : Nat) (M : List Nat), i + i ≤ L.length ∧ vi = .int .i64 (i : Int) ∧ vj = .int .i64 ((L.length : Int) - 1 - i) ∧ Turned L M i ∧ Heap W (Cel g (pc M r) 30 :: l) wr
section
variable {W w : World} {l : List Thing}
set_option maxRecDepth 100000
set_option maxHeartbeats 2000000
theorem reverse_H (g n c : Nat) (L : List Nat) (r : List Value) (hl : L.length = n) (hn : n ≤ 1000000) (H : Heap W (Cel g (pc L r) 30 :: l) w) :
    Calls Tryz.prog 90 #[.slice (some ⟨g, 0, none⟩) n c] w fun e w' => e = .returned (.tuple #[]) ∧ Heap W (Cel g (pc L.reverse r) 30 :: l) w' := by
  subst hl
  go_enter Tryz.func90, Tryz.ntmps90
  go_wp2_with (go_skip)
  have H0 := H
  clear H
  go_loopw [2, 3] (fun vi vj wr => RevLoop W l g L r vi vj wr) (fun vi _ _ => L.length - (intOf vi).toNat)
  case atStart => exact ⟨0, L, Nat.zero_le _, rfl, by simp, Turned.start L, H0⟩
  case round =>
    obtain ⟨i, M, hi, rfl, rfl, hT, H'⟩ := hrel.out
    clear H0 hrel
    have H := H'
    clear H'
    by_cases hlt : i + i + 1 < L.length
    · obtain ⟨j, hj⟩ : ∃ j : Nat, j + i + 1 = L.length := ⟨L.length - 1 - i, by omega⟩
      have ej : L.length - 1 - i = j := by omega
      have h0 : i < L.length := by omega
      have h1 : j < L.length := by omega
      have hx : L[i]? = some L[i] := List.getElem?_eq_getElem h0
      have hy : L[j]? = some L[j] := List.getElem?_eq_getElem h1
      generalize L[i] = x at *
      generalize L[j] = y at *
      have HX := Lib.hid ((hT.low hlt).trans hx)
      have HY := Lib.hid (show M[j]? = some y by have := hT.high hlt; rw [ej] at this; exact this.trans hy)
      have HS := Lib.hid (show Turned L ((M.set i y).set j x) (i + 1) by have := hT.step hlt hx (by rw [ej]; exact hy); rw [ej] at this; exact this)
      have HM := Lib.hid hT.1
      clear hT hx hy ej
      have hj2 : (L.length : Int) - 1 - (i : Int) = (j : Int) := by omega
      rw [hj2]
      clear hj2
      have hn2 : j < L.length := h1
      go_wp2_with (go_skip)
      refine wp_region_E [13, 15] [0, 1, 2, 3, 4, 5, 6, 7, 8, 9, 10, 11, 12, 13, 14, 15] (fun _ => True) H (by kernel_rfl) (by kernel_rfl) ?_
      iterate 7 (apply wpE_step; (· rfl); (· rfl); (· rfl); (· exact Nat.le_of_ble_eq_true rfl); (· intro l0 _ w0 H0; (first | go_big_quiet_skip | go_big_quiet_step (fail)); (refine wpQuiet_nil ?_); (simp only [Array.getD_eq_getD_getElem?, List.getElem?_toArray, List.getElem?_cons_succ, List.getElem?_cons_zero, Option.getD_some]; rfl)); (simp only [Act.put, List.setIfInBounds_toArray, List.set_cons_zero, List.set_cons_succ]))
      (apply wpE_early; (· rfl); (· rfl); (· kernel_rfl); (· rfl); (· exact Nat.le_of_ble_eq_true rfl); (· intro w0 H0; (first | (with_reducible apply wpQ_loadCH); (· exact cell_party); (· rfl); (· rfl); (· exact List.mem_cons_self); (· exact pc_get HY.out); (simp only [Act.put, List.setIfInBounds_toArray, List.set_cons_zero, List.set_cons_succ])); (refine wpQuiet_nil ?_); (simp only [Array.getD_eq_getD_getElem?, List.getElem?_toArray, List.getElem?_cons_succ, List.getElem?_cons_zero, Option.getD_some]; rfl)); (simp only [Act.put, List.setIfInBounds_toArray, List.set_cons_zero, List.set_cons_succ]))
      iterate 3 (apply wpE_step; (· rfl); (· rfl); (· rfl); (· exact Nat.le_of_ble_eq_true rfl); (· intro l0 _ w0 H0; (first | go_big_quiet_skip | go_big_quiet_step (fail)); (refine wpQuiet_nil ?_); (simp only [Array.getD_eq_getD_getElem?, List.getElem?_toArray, List.getElem?_cons_succ, List.getElem?_cons_zero, Option.getD_some]; rfl)); (simp only [Act.put, List.setIfInBounds_toArray, List.set_cons_zero, List.set_cons_succ]))
      (apply wpE_early; (· rfl); (· rfl); (· kernel_rfl); (· rfl); (· exact Nat.le_of_ble_eq_true rfl); (· intro w0 H0; (first | (with_reducible apply wpQ_loadCH); (· exact cell_party); (· rfl); (· rfl); (· exact List.mem_cons_self); (· exact pc_get HX.out); (simp only [Act.put, List.setIfInBounds_toArray, List.set_cons_zero, List.set_cons_succ])); (refine wpQuiet_nil ?_); (simp only [Array.getD_eq_getD_getElem?, List.getElem?_toArray, List.getElem?_cons_succ, List.getElem?_cons_zero, Option.getD_some]; rfl)); (simp only [Act.put, List.setIfInBounds_toArray, List.set_cons_zero, List.set_cons_succ]))
      (apply wpE_step; (· rfl); (· rfl); (· rfl); (· exact Nat.le_of_ble_eq_true rfl); (· intro l0 _ w0 H0; (first | go_big_quiet_skip | go_big_quiet_step (fail)); (refine wpQuiet_nil ?_); (simp only [Array.getD_eq_getD_getElem?, List.getElem?_toArray, List.getElem?_cons_succ, List.getElem?_cons_zero, Option.getD_some]; rfl)); (simp only [Act.put, List.setIfInBounds_toArray, List.set_cons_zero, List.set_cons_succ]))
      ((with_reducible apply wpE_storeI); (· exact cell_party); (· rfl); (· rfl); (· rfl); (· rfl); (· rfl); (· (repeat (first | (with_reducible exact List.mem_cons_self) | with_reducible apply List.mem_cons_of_mem))); (· (rw [pc_sz, HM.out]; omega)); (· exact pc_set _ (by rw [HM.out]; exact h0)); (· (repeat (first | (with_reducible exact Repl.here) | with_reducible apply Repl.there))); (simp only [Act.put, List.setIfInBounds_toArray, List.set_cons_zero, List.set_cons_succ]))
      (apply wpE_step; (· rfl); (· rfl); (· rfl); (· exact Nat.le_of_ble_eq_true rfl); (· intro l0 _ w0 H0; (first | go_big_quiet_skip | go_big_quiet_step (fail)); (refine wpQuiet_nil ?_); (simp only [Array.getD_eq_getD_getElem?, List.getElem?_toArray, List.getElem?_cons_succ, List.getElem?_cons_zero, Option.getD_some]; rfl)); (simp only [Act.put, List.setIfInBounds_toArray, List.set_cons_zero, List.set_cons_succ]))
      ((with_reducible apply wpE_storeI); (· exact cell_party); (· rfl); (· rfl); (· rfl); (· rfl); (· rfl); (· (repeat (first | (with_reducible exact List.mem_cons_self) | with_reducible apply List.mem_cons_of_mem))); (· (rw [pc_sz, List.length_set, HM.out]; omega)); (· exact pc_set _ (by rw [List.length_set, HM.out]; exact h1)); (· (repeat (first | (with_reducible exact Repl.here) | with_reducible apply Repl.there))); (simp only [Act.put, List.setIfInBounds_toArray, List.set_cons_zero, List.set_cons_succ]))
      (refine wpE_nil ?_; clear H; intro _ H)
      go_wp2_with (go_skip)
      refine ⟨⟨i + 1, _, by omega, by go_num, ?_, HS.out, H⟩, ?measure⟩
      · congr 1; omega
      case measure => simp [intOf]; omega
    · have HS := Lib.hid (hT.done (by omega))
      clear hT
      go_wp2_with (go_skip)
      rw [← HS.out]
      exact ⟨rfl, .tuple #[], by simp [results, show Tryz.f90.results = #[] from rfl], rfl, H⟩
end
end Go.Proofs.YtgobnamhdkbbeaaGreat

/- paths.may. -/
namespace Go.Proofs.YtgobnamhdkbbeaaGreat
open Go.RowKit
set_option linter.unusedSimpArgs false
set_option linter.unusedVariables false
set_option maxRecDepth 100000
set_option maxHeartbeats 2000000
theorem may6 (a : Nat) (h : a ≤ 255) : Ans 88 #[.int .u8 (a : Int)] (.bool (mayP a)) := by
  intro w
  unfold mayP
  by_cases h1 : 1 ≤ a
  · by_cases h2 : a ≤ 16
    all_goals
      go_enter Tryz.func88, Tryz.ntmps88
      go_wp2_with fail
      go_ret
      exact ⟨by simp [h1, h2]; omega, (by repeat (first | exact Ext.refl _ | refine Ext.alloc ?_ _ | refine Ext.ext ?_ _ | refine Ext.drew ?_))⟩
  · go_enter Tryz.func88, Tryz.ntmps88
    go_wp2_with fail
    go_ret
    exact ⟨by simp [h1], (by repeat (first | exact Ext.refl _ | refine Ext.alloc ?_ _ | refine Ext.ext ?_ _ | refine Ext.drew ?_))⟩
end Go.Proofs.YtgobnamhdkbbeaaGreat

/- clear of a slice; []T{}. -/
namespace Go.Proofs.YtgobnamhdkbbeaaGreat
open Go.RowKit
set_option linter.unusedSimpArgs false
set_option linter.unusedVariables false
section
variable {ops : Array Oper} {rest : List Oper} {o : Oper} {a : Act} {w W : World} {l : List Thing} {Q : Exit → Act → World → Prop}
theorem wpl_clearC {t e size bytes : Nat} {z : Value} (T : SlTy Tryz.prog t e size bytes z) (hz1 : ∀ u ∈ z.cells, u.oneCell' = true) (hgd : o.guard = none) {x : Operand}
    (ho : o.op = .call { callee := .builtin .clear, args := #[x], argTypes := #[t] }) {g off n c e' : Nat} (hx : a.eval x = .slice (some ⟨g, off, none⟩) n c)
    {cur : Array Value} (H : Heap W (Cel g cur e' :: l) w) (hfit : off + n * size ≤ cur.size)
    (h : ∀ c1 w', c1.size = cur.size → c1.toList.take off = cur.toList.take off → Heap W (Cel g c1 e' :: l) w' → wpList Tryz.prog ops Q rest (a.put o.dst (.tuple #[])) w') : wpList Tryz.prog ops Q (o :: rest) a w := by
  refine wpList_plain hgd fun K hK => ?_
  have hg := H.blk List.mem_cons_self
  obtain ⟨i, hi, hz, hsi, hbi⟩ := T.inf
  have r2 : ∀ w, (zeroValue e).run Tryz.prog w = .ok z w := fun w => by simp [zeroValue, typeInfo, hi, hz, go_sem]
  rcases n with _ | n
  · have hr : (Builtin.clear_ #[t] o.type #[.slice (some ⟨g, off, none⟩) 0 c]).run Tryz.prog w = .ok (.tuple #[]) w := by
      simp [Builtin.clear_, run_underlying T.und]
    unfold Oper.wp execOp
    simp only [ho, resolve, invoke, builtin, Sem.run_bind, Sem.run_pure, Result.andThen_ok, List.map_toArray, List.map_cons, List.map_nil, hx, hr]
    exact hK _ _ (h _ _ rfl rfl H)
  · have hs : (Builtin.zeroCells z.cells (n + 1)).size = (n + 1) * size := by simp [Builtin.zeroCells, T.zc]
    have h1 : ∀ v ∈ (Builtin.zeroCells z.cells (n + 1)).toList, v.oneCell' = true := by
      intro v hv
      simp only [Builtin.zeroCells, Array.toList_map, Array.toList_range, List.mem_map, List.mem_range] at hv
      obtain ⟨j, hj, rfl⟩ := hv
      have hp : 0 < z.cells.size := by rw [T.zc]; exact T.pos
      have hlt : j % z.cells.size < z.cells.size := Nat.mod_lt _ hp
      rw [getElem!_pos z.cells _ hlt]
      exact hz1 _ (Array.getElem_mem hlt)
    have hst := run_storeCells_at Tryz.prog g off e' (Builtin.zeroCells z.cells (n + 1)).toList 0 cur w hg (by simp [hs]; exact hfit) h1
    simp only [Nat.add_zero] at hst
    have hr : (Builtin.clear_ #[t] o.type #[.slice (some ⟨g, off, none⟩) (n + 1) c]).run Tryz.prog w = .ok (.tuple #[]) (w.setRow g (cur.toList.take off ++ (Builtin.zeroCells z.cells (n + 1)).toList ++ cur.toList.drop (off + (Builtin.zeroCells z.cells (n + 1)).toList.length)).toArray) := by
      simp only [Builtin.clear_]
      simp [run_underlying T.und, r2, hst]
    unfold Oper.wp execOp
    simp only [ho, resolve, invoke, builtin, Sem.run_bind, Sem.run_pure, Result.andThen_ok, List.map_toArray, List.map_cons, List.map_nil, hx, hr]
    refine hK _ _ (h _ _ ?_ ?_ (H.head ⟨rfl, rfl, rfl, by simp, fun k _ hk => setRow_other w g k _ (fun e => hk (by show some k = some g; rw [e]))⟩ (setRow_heap w g cur _ e' _ hg) (.inl rfl)))
    · simp [hs]; omega
    · have hA : (cur.toList.take off).length = off := by simp; omega
      simp only [List.append_assoc]
      rw [List.take_append_of_le_length (by rw [hA]; exact Nat.le_refl _), List.take_of_length_le (by rw [hA]; exact Nat.le_refl _)]
theorem wpl_bs0 {dst : Option Tmp} {ty : TypeId} {pos : String} {after : Array Edge} {guard : Option (Nat × Bool)} {t e : Nat} (hw : Region.wanted ⟨dst, .buildSlice t 0 #[], ty, pos, after, guard⟩ (yielded ops a.tmps) = true)
    {size bytes : Nat} {z : Value} (T : SlTy Tryz.prog t e size bytes z) (H : Heap W l w)
    (h : ∀ p w', Heap W (Cel p #[] e :: l) w' → wpList Tryz.prog ops Q rest (a.put dst (.slice (some ⟨p, 0, none⟩) 0 0)) w') : wpList Tryz.prog ops Q (⟨dst, .buildSlice t 0 #[], ty, pos, after, guard⟩ :: rest) a w := by
  obtain ⟨i, hi, hz, hsi, hbi⟩ := T.inf
  have r1 : ∀ w, (sizeOf e).run Tryz.prog w = .ok i.size w := fun w => by simp [sizeOf, typeInfo, hi, go_sem]
  have r2 : ∀ w, (zeroValue e).run Tryz.prog w = .ok z w := fun w => by simp [zeroValue, typeInfo, hi, hz, go_sem]
  refine BigFrame.wpList_want hw fun K hK => ?_
  have hrun : (Instr.buildSlice t 0 (#[].map fun ((i, x) : Nat × Operand) => (i, a.eval x))).run Tryz.prog w = .ok (.slice (some ⟨w.heap.size, 0, none⟩) 0 0) (w.alloc (.cells #[] e)) := by
    unfold Instr.buildSlice
    rw [Sem.run_bind, run_underlying T.und]
    simp only [Result.andThen_ok]
    rw [Sem.run_bind, r1]
    simp only [Result.andThen_ok]
    simp [Sem.run_bind, r2, newRow, go_sem, Instr.fill]
  unfold Oper.wp execOp
  simp only [Sem.run_bind, hrun, Result.andThen_ok, Sem.run_pure]
  exact hK _ _ (h _ _ (H.alloc _ _))
end
end Go.Proofs.YtgobnamhdkbbeaaGreat
