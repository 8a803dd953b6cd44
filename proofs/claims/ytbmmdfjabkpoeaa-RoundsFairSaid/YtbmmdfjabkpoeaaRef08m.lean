/- countinghouseref08.May: may debts be? -/
import Derived.Test.YtbmmdfjabkpoeaaRndHPart9
namespace Go.Proofs.Ytbmmdfjabkpoeaa
open Go.RowKit
set_option linter.unusedSimpArgs false
set_option linter.unusedVariables false
theorem rd_flow {w : World} {eb eo : Nat} {F : List Flw} (R : Rd w (some ⟨eb, eo, none⟩) (flwL F)) {k : Nat} {x : Flw} (hx : F[k]? = some x) : w.cell? ⟨eb, eo + k * 3 + 0, none⟩ = some (.int .u8 (x.f : Int)) ∧ w.cell? ⟨eb, eo + k * 3 + 1, none⟩ = some (.int .u8 (x.t : Int)) ∧ w.cell? ⟨eb, eo + k * 3 + 2, none⟩ = some (.int .i64 x.n) := by
  have hk := (List.getElem?_eq_some_iff.1 hx).1
  have hrow := flwL_at F k hk
  rw [(List.getElem?_eq_some_iff.1 hx).2] at hrow
  have hlen : k * 3 + 3 ≤ (flwL F).length := by rw [flwL_len]; omega
  have key : ∀ q v, q < 3 → (flwV x)[q]? = some v → w.cell? ⟨eb, eo + k * 3 + q, none⟩ = some v := fun q v hq hv => by
    have h1 := R.get (i := k * 3 + q) (by omega)
    rw [← Nat.add_assoc] at h1
    rw [h1, ← hv, ← hrow, List.getElem?_take, if_pos hq, List.getElem?_drop, List.getElem?_eq_getElem (by omega)]
  exact ⟨key 0 _ (by omega) rfl, key 1 _ (by omega) rfl, key 2 _ (by omega) rfl⟩
theorem okD_iff {x : Flw} : okD x = true ↔ ¬ x.f < 1 ∧ ¬ 16 < x.f ∧ ¬ x.t < 1 ∧ ¬ 16 < x.t ∧ x.f ≠ x.t ∧ ¬ x.n < 1 ∧ ¬ 1099511627776 < x.n := by
  simp [okD, mayP]
  omega
section
variable {W w : World} {l : List Thing}
set_option maxRecDepth 100000
set_option maxHeartbeats 4000000
open Classical in
theorem rmay8_H (a : Option Addr) (n c : Nat) (F : List Flw) (hl : F.length = n) (hn : n ≤ 1000000) (hF : ∀ x ∈ F, FlwOk x) (R : ∀ l' w', (∀ x ∈ l, x ∈ l') → Heap W l' w' → Rd w' a (flwL F)) :
    AnsH W l 25 #[.slice a n c] (.bool (decide (MayD F))) := by
  intro w H
  have HL := Lib.hid hl
  have HF := Lib.hid hF
  have HR := Lib.hid R
  clear hl hF R
  go_enter Try.func25, Try.ntmps25
  go_wp2_with (go_skip)
  have H0 := H
  clear H
  go_loopw [3] (fun i wr => M8R W l F n i wr) (fun i _ => n - (intOf i).toNat)
  case atStart => exact ⟨0, Nat.zero_le _, rfl, fun i x hi => absurd hi (by omega), H0⟩
  case round =>
    obtain ⟨k, hk, rfl, hO, H⟩ := hrel.out
    clear H0 hrel
    have HO := Lib.hid hO
    clear hO
    by_cases hlt : k < n
    · have hkF : k < F.length := by rw [HL.out]; exact hlt
      have hx : F[k]? = some F[k] := List.getElem?_eq_getElem hkF
      have hok := HF.out F[k] (List.getElem_mem hkF)
      have hat := flwL_at F k hkF
      have hlen : k * 3 + 3 ≤ (flwL F).length := by rw [flwL_len]; omega
      generalize F[k] = x at *
      have HMAY := Lib.hid (fun (h : MayD F) => h.at hx)
      have HX := Lib.hid hx
      obtain ⟨f, t, m⟩ := x
      obtain ⟨o1, o2, o3, o4⟩ := hok
      simp only at o1 o2 o3 o4
      have hrow : (((flwL F).drop (k * 3)).take 3).toArray = flow (f : Int) (t : Int) m := by rw [hat]; rfl
      obtain ⟨eb, eo, rfl, _⟩ := (HR.out l _ (fun _ h => h) H).lt (by omega)
      have HRd := Lib.hid (HR.out l _ (fun _ h => h) H)
      have HOK := Lib.hid (okD_iff (x := ⟨f, t, m⟩))
      clear hat hx hkF
      by_cases q0 : f < 1
      · have d0 : decide ((f : Int) < 1) = true := by simp; omega
        have HN := Lib.hid (show ¬ MayD F from fun h => by have := HOK.out.1 (HMAY.out h).1; simp only at this; omega)
        clear q0
        go_wp2_with (first
          | go_skip
          | ((with_reducible show wpList _ _ _ (_ :: _) _ _); (with_reducible apply wpl_loadRdR row_flow); (· rfl); (· rfl); (· exact HRd.out); (· rfl); (· exact hlen); (· decide); (· exact hrow); (simp only [Act.put, List.setIfInBounds_toArray, List.set_cons_zero, List.set_cons_succ]))
          | ((with_reducible show wpList _ _ _ (_ :: _) _ _); (with_reducible apply wpl_allocRH row_flow); (· rfl); (· exact H); (clear H; intro px _ H); (simp only [Act.put, List.setIfInBounds_toArray, List.set_cons_zero, List.set_cons_succ]))
          | ((with_reducible show wpList _ _ _ (_ :: _) _ _); (with_reducible apply wpl_storeRH row_flow); (· rfl); (· rfl); (· rfl); (· with_reducible exact flow_cells ..); (· exact H); (· (repeat (first | (with_reducible exact List.mem_cons_self) | with_reducible apply List.mem_cons_of_mem))); (· (simp only [flow_sz, Nat.reduceAdd, Nat.reduceLeDiff, Nat.le_refl]; done)); (· with_reducible exact flow_splice ..); (· (repeat (first | (with_reducible exact Repl.here) | with_reducible apply Repl.there))); (clear H; intro _ H); (simp only [Act.put, List.setIfInBounds_toArray, List.set_cons_zero, List.set_cons_succ]))
          | ((with_reducible show wpList _ _ _ (_ :: _) _ _); (with_reducible apply wpl_loadCH); (· first | exact cell_party | exact cell_i64); (· rfl); (· rfl); (· exact H); (· (repeat (first | (with_reducible exact List.mem_cons_self) | with_reducible apply List.mem_cons_of_mem))); (· (with_reducible first | exact flow_g0 .. | exact flow_g1 .. | exact flow_g2 ..)); (simp only [Act.put, List.setIfInBounds_toArray, List.set_cons_zero, List.set_cons_succ])))
        go_ret
        exact ⟨by rw [decide_eq_false HN.out]; rfl, H.tail⟩
      · have d0 : decide ((f : Int) < 1) = false := by simp; omega
        by_cases q1 : 16 < f
        · have d1 : decide ((f : Int) > 16) = true := by simp; omega
          have HN := Lib.hid (show ¬ MayD F from fun h => by have := HOK.out.1 (HMAY.out h).1; simp only at this; omega)
          clear q0 q1
          go_wp2_with (first
            | go_skip
            | ((with_reducible show wpList _ _ _ (_ :: _) _ _); (with_reducible apply wpl_loadRdR row_flow); (· rfl); (· rfl); (· exact HRd.out); (· rfl); (· exact hlen); (· decide); (· exact hrow); (simp only [Act.put, List.setIfInBounds_toArray, List.set_cons_zero, List.set_cons_succ]))
            | ((with_reducible show wpList _ _ _ (_ :: _) _ _); (with_reducible apply wpl_allocRH row_flow); (· rfl); (· exact H); (clear H; intro px _ H); (simp only [Act.put, List.setIfInBounds_toArray, List.set_cons_zero, List.set_cons_succ]))
            | ((with_reducible show wpList _ _ _ (_ :: _) _ _); (with_reducible apply wpl_storeRH row_flow); (· rfl); (· rfl); (· rfl); (· with_reducible exact flow_cells ..); (· exact H); (· (repeat (first | (with_reducible exact List.mem_cons_self) | with_reducible apply List.mem_cons_of_mem))); (· (simp only [flow_sz, Nat.reduceAdd, Nat.reduceLeDiff, Nat.le_refl]; done)); (· with_reducible exact flow_splice ..); (· (repeat (first | (with_reducible exact Repl.here) | with_reducible apply Repl.there))); (clear H; intro _ H); (simp only [Act.put, List.setIfInBounds_toArray, List.set_cons_zero, List.set_cons_succ]))
            | ((with_reducible show wpList _ _ _ (_ :: _) _ _); (with_reducible apply wpl_loadCH); (· first | exact cell_party | exact cell_i64); (· rfl); (· rfl); (· exact H); (· (repeat (first | (with_reducible exact List.mem_cons_self) | with_reducible apply List.mem_cons_of_mem))); (· (with_reducible first | exact flow_g0 .. | exact flow_g1 .. | exact flow_g2 ..)); (simp only [Act.put, List.setIfInBounds_toArray, List.set_cons_zero, List.set_cons_succ])))
          go_ret
          exact ⟨by rw [decide_eq_false HN.out]; rfl, H.tail⟩
        · have d1 : decide ((f : Int) > 16) = false := by simp; omega
          by_cases q2 : t < 1
          · have d2 : decide ((t : Int) < 1) = true := by simp; omega
            have HN := Lib.hid (show ¬ MayD F from fun h => by have := HOK.out.1 (HMAY.out h).1; simp only at this; omega)
            clear q0 q1 q2
            go_wp2_with (first
              | go_skip
              | ((with_reducible show wpList _ _ _ (_ :: _) _ _); (with_reducible apply wpl_loadRdR row_flow); (· rfl); (· rfl); (· exact HRd.out); (· rfl); (· exact hlen); (· decide); (· exact hrow); (simp only [Act.put, List.setIfInBounds_toArray, List.set_cons_zero, List.set_cons_succ]))
              | ((with_reducible show wpList _ _ _ (_ :: _) _ _); (with_reducible apply wpl_allocRH row_flow); (· rfl); (· exact H); (clear H; intro px _ H); (simp only [Act.put, List.setIfInBounds_toArray, List.set_cons_zero, List.set_cons_succ]))
              | ((with_reducible show wpList _ _ _ (_ :: _) _ _); (with_reducible apply wpl_storeRH row_flow); (· rfl); (· rfl); (· rfl); (· with_reducible exact flow_cells ..); (· exact H); (· (repeat (first | (with_reducible exact List.mem_cons_self) | with_reducible apply List.mem_cons_of_mem))); (· (simp only [flow_sz, Nat.reduceAdd, Nat.reduceLeDiff, Nat.le_refl]; done)); (· with_reducible exact flow_splice ..); (· (repeat (first | (with_reducible exact Repl.here) | with_reducible apply Repl.there))); (clear H; intro _ H); (simp only [Act.put, List.setIfInBounds_toArray, List.set_cons_zero, List.set_cons_succ]))
              | ((with_reducible show wpList _ _ _ (_ :: _) _ _); (with_reducible apply wpl_loadCH); (· first | exact cell_party | exact cell_i64); (· rfl); (· rfl); (· exact H); (· (repeat (first | (with_reducible exact List.mem_cons_self) | with_reducible apply List.mem_cons_of_mem))); (· (with_reducible first | exact flow_g0 .. | exact flow_g1 .. | exact flow_g2 ..)); (simp only [Act.put, List.setIfInBounds_toArray, List.set_cons_zero, List.set_cons_succ])))
            go_ret
            exact ⟨by rw [decide_eq_false HN.out]; rfl, H.tail⟩
          · have d2 : decide ((t : Int) < 1) = false := by simp; omega
            by_cases q3 : 16 < t
            · have d3 : decide ((t : Int) > 16) = true := by simp; omega
              have HN := Lib.hid (show ¬ MayD F from fun h => by have := HOK.out.1 (HMAY.out h).1; simp only at this; omega)
              clear q0 q1 q2 q3
              go_wp2_with (first
                | go_skip
                | ((with_reducible show wpList _ _ _ (_ :: _) _ _); (with_reducible apply wpl_loadRdR row_flow); (· rfl); (· rfl); (· exact HRd.out); (· rfl); (· exact hlen); (· decide); (· exact hrow); (simp only [Act.put, List.setIfInBounds_toArray, List.set_cons_zero, List.set_cons_succ]))
                | ((with_reducible show wpList _ _ _ (_ :: _) _ _); (with_reducible apply wpl_allocRH row_flow); (· rfl); (· exact H); (clear H; intro px _ H); (simp only [Act.put, List.setIfInBounds_toArray, List.set_cons_zero, List.set_cons_succ]))
                | ((with_reducible show wpList _ _ _ (_ :: _) _ _); (with_reducible apply wpl_storeRH row_flow); (· rfl); (· rfl); (· rfl); (· with_reducible exact flow_cells ..); (· exact H); (· (repeat (first | (with_reducible exact List.mem_cons_self) | with_reducible apply List.mem_cons_of_mem))); (· (simp only [flow_sz, Nat.reduceAdd, Nat.reduceLeDiff, Nat.le_refl]; done)); (· with_reducible exact flow_splice ..); (· (repeat (first | (with_reducible exact Repl.here) | with_reducible apply Repl.there))); (clear H; intro _ H); (simp only [Act.put, List.setIfInBounds_toArray, List.set_cons_zero, List.set_cons_succ]))
                | ((with_reducible show wpList _ _ _ (_ :: _) _ _); (with_reducible apply wpl_loadCH); (· first | exact cell_party | exact cell_i64); (· rfl); (· rfl); (· exact H); (· (repeat (first | (with_reducible exact List.mem_cons_self) | with_reducible apply List.mem_cons_of_mem))); (· (with_reducible first | exact flow_g0 .. | exact flow_g1 .. | exact flow_g2 ..)); (simp only [Act.put, List.setIfInBounds_toArray, List.set_cons_zero, List.set_cons_succ])))
              go_ret
              exact ⟨by rw [decide_eq_false HN.out]; rfl, H.tail⟩
            · have d3 : decide ((t : Int) > 16) = false := by simp; omega
              by_cases q4 : f = t
              · have d4 : ((f : Int) == (t : Int)) = true := by simp; omega
                have HN := Lib.hid (show ¬ MayD F from fun h => by have := HOK.out.1 (HMAY.out h).1; simp only at this; omega)
                clear q0 q1 q2 q3 q4
                go_wp2_with (first
                  | go_skip
                  | ((with_reducible show wpList _ _ _ (_ :: _) _ _); (with_reducible apply wpl_loadRdR row_flow); (· rfl); (· rfl); (· exact HRd.out); (· rfl); (· exact hlen); (· decide); (· exact hrow); (simp only [Act.put, List.setIfInBounds_toArray, List.set_cons_zero, List.set_cons_succ]))
                  | ((with_reducible show wpList _ _ _ (_ :: _) _ _); (with_reducible apply wpl_allocRH row_flow); (· rfl); (· exact H); (clear H; intro px _ H); (simp only [Act.put, List.setIfInBounds_toArray, List.set_cons_zero, List.set_cons_succ]))
                  | ((with_reducible show wpList _ _ _ (_ :: _) _ _); (with_reducible apply wpl_storeRH row_flow); (· rfl); (· rfl); (· rfl); (· with_reducible exact flow_cells ..); (· exact H); (· (repeat (first | (with_reducible exact List.mem_cons_self) | with_reducible apply List.mem_cons_of_mem))); (· (simp only [flow_sz, Nat.reduceAdd, Nat.reduceLeDiff, Nat.le_refl]; done)); (· with_reducible exact flow_splice ..); (· (repeat (first | (with_reducible exact Repl.here) | with_reducible apply Repl.there))); (clear H; intro _ H); (simp only [Act.put, List.setIfInBounds_toArray, List.set_cons_zero, List.set_cons_succ]))
                  | ((with_reducible show wpList _ _ _ (_ :: _) _ _); (with_reducible apply wpl_loadCH); (· first | exact cell_party | exact cell_i64); (· rfl); (· rfl); (· exact H); (· (repeat (first | (with_reducible exact List.mem_cons_self) | with_reducible apply List.mem_cons_of_mem))); (· (with_reducible first | exact flow_g0 .. | exact flow_g1 .. | exact flow_g2 ..)); (simp only [Act.put, List.setIfInBounds_toArray, List.set_cons_zero, List.set_cons_succ])))
                go_ret
                exact ⟨by rw [decide_eq_false HN.out]; rfl, H.tail⟩
              · have d4 : ((f : Int) == (t : Int)) = false := by simp; omega
                by_cases q5 : m < 1
                · have d5 : decide (m < 1) = true := by simp; omega
                  have HN := Lib.hid (show ¬ MayD F from fun h => by have := HOK.out.1 (HMAY.out h).1; simp only at this; omega)
                  clear q0 q1 q2 q3 q4 q5
                  go_wp2_with (first
                    | go_skip
                    | ((with_reducible show wpList _ _ _ (_ :: _) _ _); (with_reducible apply wpl_loadRdR row_flow); (· rfl); (· rfl); (· exact HRd.out); (· rfl); (· exact hlen); (· decide); (· exact hrow); (simp only [Act.put, List.setIfInBounds_toArray, List.set_cons_zero, List.set_cons_succ]))
                    | ((with_reducible show wpList _ _ _ (_ :: _) _ _); (with_reducible apply wpl_allocRH row_flow); (· rfl); (· exact H); (clear H; intro px _ H); (simp only [Act.put, List.setIfInBounds_toArray, List.set_cons_zero, List.set_cons_succ]))
                    | ((with_reducible show wpList _ _ _ (_ :: _) _ _); (with_reducible apply wpl_storeRH row_flow); (· rfl); (· rfl); (· rfl); (· with_reducible exact flow_cells ..); (· exact H); (· (repeat (first | (with_reducible exact List.mem_cons_self) | with_reducible apply List.mem_cons_of_mem))); (· (simp only [flow_sz, Nat.reduceAdd, Nat.reduceLeDiff, Nat.le_refl]; done)); (· with_reducible exact flow_splice ..); (· (repeat (first | (with_reducible exact Repl.here) | with_reducible apply Repl.there))); (clear H; intro _ H); (simp only [Act.put, List.setIfInBounds_toArray, List.set_cons_zero, List.set_cons_succ]))
                    | ((with_reducible show wpList _ _ _ (_ :: _) _ _); (with_reducible apply wpl_loadCH); (· first | exact cell_party | exact cell_i64); (· rfl); (· rfl); (· exact H); (· (repeat (first | (with_reducible exact List.mem_cons_self) | with_reducible apply List.mem_cons_of_mem))); (· (with_reducible first | exact flow_g0 .. | exact flow_g1 .. | exact flow_g2 ..)); (simp only [Act.put, List.setIfInBounds_toArray, List.set_cons_zero, List.set_cons_succ])))
                  go_ret
                  exact ⟨by rw [decide_eq_false HN.out]; rfl, H.tail⟩
                · have d5 : decide (m < 1) = false := by simp; omega
                  by_cases q6 : 1099511627776 < m
                  · have d6 : decide (m > 1099511627776) = true := by simp; omega
                    have HN := Lib.hid (show ¬ MayD F from fun h => by have := HOK.out.1 (HMAY.out h).1; simp only at this; omega)
                    clear q0 q1 q2 q3 q4 q5 q6
                    go_wp2_with (first
                      | go_skip
                      | ((with_reducible show wpList _ _ _ (_ :: _) _ _); (with_reducible apply wpl_loadRdR row_flow); (· rfl); (· rfl); (· exact HRd.out); (· rfl); (· exact hlen); (· decide); (· exact hrow); (simp only [Act.put, List.setIfInBounds_toArray, List.set_cons_zero, List.set_cons_succ]))
                      | ((with_reducible show wpList _ _ _ (_ :: _) _ _); (with_reducible apply wpl_allocRH row_flow); (· rfl); (· exact H); (clear H; intro px _ H); (simp only [Act.put, List.setIfInBounds_toArray, List.set_cons_zero, List.set_cons_succ]))
                      | ((with_reducible show wpList _ _ _ (_ :: _) _ _); (with_reducible apply wpl_storeRH row_flow); (· rfl); (· rfl); (· rfl); (· with_reducible exact flow_cells ..); (· exact H); (· (repeat (first | (with_reducible exact List.mem_cons_self) | with_reducible apply List.mem_cons_of_mem))); (· (simp only [flow_sz, Nat.reduceAdd, Nat.reduceLeDiff, Nat.le_refl]; done)); (· with_reducible exact flow_splice ..); (· (repeat (first | (with_reducible exact Repl.here) | with_reducible apply Repl.there))); (clear H; intro _ H); (simp only [Act.put, List.setIfInBounds_toArray, List.set_cons_zero, List.set_cons_succ]))
                      | ((with_reducible show wpList _ _ _ (_ :: _) _ _); (with_reducible apply wpl_loadCH); (· first | exact cell_party | exact cell_i64); (· rfl); (· rfl); (· exact H); (· (repeat (first | (with_reducible exact List.mem_cons_self) | with_reducible apply List.mem_cons_of_mem))); (· (with_reducible first | exact flow_g0 .. | exact flow_g1 .. | exact flow_g2 ..)); (simp only [Act.put, List.setIfInBounds_toArray, List.set_cons_zero, List.set_cons_succ])))
                    go_ret
                    exact ⟨by rw [decide_eq_false HN.out]; rfl, H.tail⟩
                  · have d6 : decide (m > 1099511627776) = false := by simp; omega
                    have HK := Lib.hid (show okD ⟨f, t, m⟩ = true from HOK.out.2 ⟨q0, q1, q2, q3, q4, q5, q6⟩)
                    clear q0 q1 q2 q3 q4 q5 q6
                    go_wp2_with (first
                      | go_skip
                      | ((with_reducible show wpList _ _ _ (_ :: _) _ _); (with_reducible apply wpl_loadRdR row_flow); (· rfl); (· rfl); (· exact HRd.out); (· rfl); (· exact hlen); (· decide); (· exact hrow); (simp only [Act.put, List.setIfInBounds_toArray, List.set_cons_zero, List.set_cons_succ]))
                      | ((with_reducible show wpList _ _ _ (_ :: _) _ _); (with_reducible apply wpl_allocRH row_flow); (· rfl); (· exact H); (clear H; intro px _ H); (simp only [Act.put, List.setIfInBounds_toArray, List.set_cons_zero, List.set_cons_succ]))
                      | ((with_reducible show wpList _ _ _ (_ :: _) _ _); (with_reducible apply wpl_storeRH row_flow); (· rfl); (· rfl); (· rfl); (· with_reducible exact flow_cells ..); (· exact H); (· (repeat (first | (with_reducible exact List.mem_cons_self) | with_reducible apply List.mem_cons_of_mem))); (· (simp only [flow_sz, Nat.reduceAdd, Nat.reduceLeDiff, Nat.le_refl]; done)); (· with_reducible exact flow_splice ..); (· (repeat (first | (with_reducible exact Repl.here) | with_reducible apply Repl.there))); (clear H; intro _ H); (simp only [Act.put, List.setIfInBounds_toArray, List.set_cons_zero, List.set_cons_succ]))
                      | ((with_reducible show wpList _ _ _ (_ :: _) _ _); (with_reducible apply wpl_loadCH); (· first | exact cell_party | exact cell_i64); (· rfl); (· rfl); (· exact H); (· (repeat (first | (with_reducible exact List.mem_cons_self) | with_reducible apply List.mem_cons_of_mem))); (· (with_reducible first | exact flow_g0 .. | exact flow_g1 .. | exact flow_g2 ..)); (simp only [Act.put, List.setIfInBounds_toArray, List.set_cons_zero, List.set_cons_succ])))
                    by_cases p0 : k = 0
                    · have g0 : decide ((k : Int) > 0) = false := decide_eq_false (by omega)
                      have g1 : decide (0 < k) = false := decide_eq_false (by omega)
                      refine wp_region_H H (by kernel_rfl) (by kernel_rfl) ?_
                      repeat (first | go_big_quiet_skip | fail | go_big_quiet_step (fail))
                      refine wpQuiet_nil ?_
                      clear H
                      intro _ H
                      go_wp2_with (go_skip)
                      refine ⟨⟨k + 1, by omega, by go_num, HO.out.next HX.out HK.out (fun y h => absurd h (by omega)), H.tail⟩, ?measure1⟩
                      case measure1 => simp [intOf]; omega
                    · have g0 : decide ((k : Int) > 0) = true := decide_eq_true (by omega)
                      have g1 : decide (0 < k) = true := decide_eq_true (by omega)
                      have hjF : k - 1 < F.length := by rw [HL.out]; omega
                      have hy : F[k - 1]? = some F[k - 1] := List.getElem?_eq_getElem hjF
                      have hyo := HF.out F[k - 1] (List.getElem_mem hjF)
                      have w1 : wrap64 ((k : Int) - 1) = (k : Int) - 1 := IntWalk.wrap64_in _ ⟨by omega, by omega⟩
                      have hjn : k - 1 < n := by omega
                      generalize F[k - 1] = y at *
                      obtain ⟨yf, yt, ym⟩ := y
                      obtain ⟨y1, y2, _, _⟩ := hyo
                      simp only at y1 y2
                      have HY := Lib.hid (show F[k - 1]? = some ⟨yf, yt, ym⟩ from hy)
                      have hc0 : ∀ w', Heap W (Cel px (flow (f : Int) (t : Int) m) 39 :: l) w' → w'.cell? ⟨eb, eo + (k - 1) * 3, none⟩ = some (.int .u8 (yf : Int)) := fun w' h => (rd_flow (HR.out _ w' (fun x hx => List.mem_cons_of_mem _ hx) h) HY.out).1
                      have hc1 : ∀ w', Heap W (Cel px (flow (f : Int) (t : Int) m) 39 :: l) w' → w'.cell? ⟨eb, eo + (k - 1) * 3 + 1, none⟩ = some (.int .u8 (yt : Int)) := fun w' h => (rd_flow (HR.out _ w' (fun x hx => List.mem_cons_of_mem _ hx) h) HY.out).2.1
                      have HCF := Lib.hid (cfF_lt ⟨yf, yt, ym⟩ ⟨f, t, m⟩)
                      clear hy hjF
                      refine wp_region_H H (by kernel_rfl) (by kernel_rfl) ?_
                      repeat (first | go_big_quiet_skip | (first | ((with_reducible apply wpQ_loadAt cell_party); (· rfl); (· rfl); (· with_reducible first | exact hc0 | exact hc1); (simp only [Act.put, List.setIfInBounds_toArray, List.set_cons_zero, List.set_cons_succ])) | ((with_reducible apply wpQ_loadCH); (· exact cell_party); (· rfl); (· rfl); (· (repeat (first | (with_reducible exact List.mem_cons_self) | with_reducible apply List.mem_cons_of_mem))); (· (with_reducible first | exact flow_g0 .. | exact flow_g1 .. | exact flow_g2 ..)); (simp only [Act.put, List.setIfInBounds_toArray, List.set_cons_zero, List.set_cons_succ]))) | go_big_quiet_step ((with_reducible first | exact AnsH.quiet (by assumption) | exact Ans.quietH (by assumption))))
                      refine wpQuiet_nil ?_
                      clear H
                      intro _ H
                      by_cases q7 : 256 * (f : Int) + (t : Int) ≤ 256 * (yf : Int) + (yt : Int)
                      · have d7 : decide (256 * (f : Int) + (t : Int) ≤ 256 * (yf : Int) + (yt : Int)) = true := decide_eq_true q7
                        have HN := Lib.hid (show ¬ MayD F from fun h => by have := HCF.out.1 ((HMAY.out h).2 _ (by omega) HY.out); simp only at this; omega)
                        clear q7
                        rw [d7]
                        clear d7
                        go_wp2_with (go_skip)
                        go_ret
                        exact ⟨by rw [decide_eq_false HN.out]; rfl, H.tail⟩
                      · have d7 : decide (256 * (f : Int) + (t : Int) ≤ 256 * (yf : Int) + (yt : Int)) = false := decide_eq_false q7
                        have HN := Lib.hid (show cfF ⟨yf, yt, ym⟩ ⟨f, t, m⟩ < 0 from HCF.out.2 (by simp only; omega))
                        clear q7
                        rw [d7]
                        clear d7
                        go_wp2_with (go_skip)
                        refine ⟨⟨k + 1, by omega, by go_num, HO.out.next HX.out HK.out (fun z _ hz => by rw [HY.out] at hz; cases hz; exact HN.out), H.tail⟩, ?measure2⟩
                        case measure2 => simp [intOf]; omega
    · obtain rfl : k = n := by omega
      have HN := Lib.hid (show MayD F from by unfold MayD; rw [HL.out]; exact HO.out)
      go_wp2_with (go_skip)
      go_ret
      exact ⟨by rw [decide_eq_true HN.out]; rfl, H⟩
end
end Go.Proofs.Ytbmmdfjabkpoeaa
