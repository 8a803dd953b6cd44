/- paths.Short: the shortest way. -/
import Derived.Test.YtglehneaphigdaaHops
import Derived.Test.YtglehneaphigdaaWays
namespace Go.Proofs.Ytglehneaphigdaa
open Go.RowKit
set_option linter.unusedSimpArgs false
set_option linter.unusedVariables false
abbrev partyZ : Value := .int .u8 0
theorem made_len (m : Nat) (v : Value) : ((madeCells partyZ.cells (m * 1)).setIfInBounds 0 v).size = m := by rw [Array.size_setIfInBounds, size_madeCells, Nat.mul_one]
theorem made_head {m : Nat} (h : 1 ≤ m) (v : Value) : ((madeCells partyZ.cells (m * 1)).setIfInBounds 0 v).toList.take (1 * 1) = [v] := by
  have hs := made_len m v
  have h0 : ((madeCells partyZ.cells (m * 1)).setIfInBounds 0 v).toList[0]? = some v := by
    rw [Array.getElem?_toList, Array.getElem?_setIfInBounds_self_of_lt]
    rw [size_madeCells]; omega
  cases hl : ((madeCells partyZ.cells (m * 1)).setIfInBounds 0 v).toList with
  | nil => rw [hl] at h0; simp at h0
  | cons x xs => rw [hl] at h0; simp at h0; simp [h0]
/-- The chapter's shortest way. -/
def IsShort (c : Caps) (f t : Nat) (L : List Nat) : Prop :=
  (L = [] ∧ (mayP f = false ∨ mayP t = false ∨ f = t ∨ ∃ d, IsDist (edge c) t d ∧ d f = 17)) ∨ (mayP f = true ∧ mayP t = true ∧ f ≠ t ∧ ∃ d, IsDist (edge c) t d ∧ d f < 17 ∧ Way (edge c) d f t L)
def ShortPost (W : World) (l : List Thing) (c : Caps) (f t : Nat) (e : Ending) (w' : World) : Prop := ∃ v L, e = .returned v ∧ IsShort c f t L ∧ Heap W (OwnT 33 1 v L.length (L.map pv) :: l) w'
/-- Of the way what is found. -/
structure ShortOut (W : World) (l : List Thing) (c : Caps) (f t pd : Nat) (d : Nat → Nat) (m : Nat) (v i : Value) (w2 : World) : Prop where
  out : ∃ a L, i = .int .u8 ((a : Nat) : Int) ∧ d a < 17 ∧ d a ≤ m ∧ WayTo (edge c) d f a L ∧ Heap W (OwnT 33 1 v L.length (L.map pv) :: Cel pd (dist17 d) 74 :: l) w2
/-- Who is not the next one. -/
structure ShortIn (W : World) (l' : List Thing) (c : Caps) (a : Nat) (d : Nat → Nat) (i j : Value) (w2 : World) : Prop where
  out : ∃ k : Nat, i = .int .u8 ((a : Nat) : Int) ∧ j = .int .u8 (k : Int) ∧ 1 ≤ k ∧ k ≤ 17 ∧ (∀ q, 1 ≤ q → q < k → ¬ GoodP (edge c) d a q) ∧ Heap W l' w2
section
variable {W w : World} {l : List Thing} {gv : Value} {c : Caps}
set_option maxRecDepth 100000
set_option maxHeartbeats 2000000
theorem may6 (a : Nat) (h : a ≤ 255) : Ans 57 #[.int .u8 (a : Int)] (.bool (mayP a)) := by
  intro w
  unfold mayP
  by_cases h1 : 1 ≤ a
  · by_cases h2 : a ≤ 16
    all_goals
      go_enter Try.func57, Try.ntmps57
      go_wp2_with fail
      go_ret
      exact ⟨by simp [h1, h2]; omega, (by repeat (first | exact Ext.refl _ | refine Ext.alloc ?_ _ | refine Ext.ext ?_ _ | refine Ext.drew ?_))⟩
  · go_enter Try.func57, Try.ntmps57
    go_wp2_with fail
    go_ret
    exact ⟨by simp [h1], (by repeat (first | exact Ext.refl _ | refine Ext.alloc ?_ _ | refine Ext.ext ?_ _ | refine Ext.drew ?_))⟩
theorem short_not (f t : Nat) (hf : f ≤ 255) (ht : t ≤ 255) (hn : mayP f = false ∨ mayP t = false ∨ f = t) : AnsH W l 40 #[gv, .int .u8 (f : Int), .int .u8 (t : Int)] (.slice none 0 0) := by
  intro w H
  have Mf := may6 f hf
  have Mt := may6 t ht
  by_cases h1 : mayP f = true
  · rw [h1] at Mf
    by_cases h2 : mayP t = true
    · rw [h2] at Mt
      obtain rfl : f = t := by
        rcases hn with h | h | h
        · rw [h1] at h; cases h
        · rw [h2] at h; cases h
        · exact h
      clear h1 h2 hn
      go_enter Try.func40, Try.ntmps40
      go_wp2_with (first | go_skip | ((with_reducible refine Ans.callH (by assumption) H ?_); clear H; intro _ H))
      go_ret
      exact ⟨rfl, H⟩
    · have h2 : mayP t = false := by simpa using h2
      rw [h2] at Mt
      clear h1 h2 hn
      go_enter Try.func40, Try.ntmps40
      go_wp2_with (first | go_skip | ((with_reducible refine Ans.callH (by assumption) H ?_); clear H; intro _ H))
      go_ret
      exact ⟨rfl, H⟩
  · have h1 : mayP f = false := by simpa using h1
    rw [h1] at Mf
    clear h1 hn
    go_enter Try.func40, Try.ntmps40
    go_wp2_with (first | go_skip | ((with_reducible refine Ans.callH (by assumption) H ?_); clear H; intro _ H))
    go_ret
    exact ⟨rfl, H⟩
theorem short_H (f t : Nat) (hf : f ≤ 255) (ht : t ≤ 255) (h : CapsOf W l gv c) (H : Heap W l w) : Calls Try.prog 40 #[gv, .int .u8 (f : Int), .int .u8 (t : Int)] w (ShortPost W l c f t) := by
  by_cases hn : mayP f = false ∨ mayP t = false ∨ f = t
  · refine (short_not f t hf ht hn w H).mono ?_
    rintro e w1 ⟨rfl, H⟩
    refine ⟨_, [], rfl, .inl ⟨rfl, ?_⟩, (H.nilRow _ _).slide⟩
    rcases hn with h | h | h
    · exact .inl h
    · exact .inr (.inl h)
    · exact .inr (.inr (.inl h))
  · have hmf : mayP f = true := by
      cases e : mayP f
      · exact absurd (.inl e) hn
      · rfl
    have hmt : mayP t = true := by
      cases e : mayP t
      · exact absurd (.inr (.inl e)) hn
      · rfl
    have hne : f ≠ t := fun e => hn (.inr (.inr e))
    have Mf := may6 f hf
    have Mt := may6 t ht
    rw [hmf] at Mf
    rw [hmt] at Mt
    have hf17 := mayP_true hmf
    have ht17 := mayP_true hmt
    have hfl : f < 17 := by omega
    have E := Lib.hid (show mayP f = true ∧ mayP t = true from ⟨hmf, hmt⟩)
    have hne2 : ((f : Int) == (t : Int)) = false := by simp; omega
    have hne3 : decide ((f : Int) = (t : Int)) = false := by simp; omega
    clear hn hmf hmt
    by_cases hr : ∀ d, IsDist (edge c) t d → d f = 17
    · have hr2 : ∀ d, IsDist (edge c) t d → d f = 17 ∧ ((d f : Int) == 17) = true ∧ decide ((d f : Int) = 17) = true := fun d hd => by rw [hr d hd]; exact ⟨rfl, rfl, rfl⟩
      clear hr
      go_enter Try.func40, Try.ntmps40
      go_wp2_with (first
        | go_skip
        | ((with_reducible refine Ans.callH (by assumption) H ?_); clear H; intro _ H)
        | ((with_reducible refine (hops_H t ht17.1 ht17.2 h H).mono ?_); clear H; rintro _ _ ⟨d, hdist, rfl, H⟩; (obtain ⟨r1, r2, r3⟩ := hr2 d hdist); clear hr2)
        | ((with_reducible show wpList _ _ _ (_ :: _) _ _); (with_reducible apply wpl_allocRH row_17i); (· rfl); (· exact H); (clear H; intro pd _ H); (simp only [Act.put, List.setIfInBounds_toArray, List.set_cons_zero, List.set_cons_succ]))
        | ((with_reducible show wpList _ _ _ (_ :: _) _ _); (with_reducible apply wpl_storeRH row_17i); (· rfl); (· rfl); (· rfl); (· with_reducible exact dist17_cells ..); (· exact H); (· (repeat (first | (with_reducible exact List.mem_cons_self) | with_reducible apply List.mem_cons_of_mem))); (· (simp only [row17_sz, Nat.reduceAdd, Nat.reduceLeDiff, Nat.le_refl]; done)); (· with_reducible exact dist17_splice ..); (· (repeat (first | (with_reducible exact Repl.here) | with_reducible apply Repl.there))); (clear H; intro _ H); (simp only [Act.put, List.setIfInBounds_toArray, List.set_cons_zero, List.set_cons_succ]))
        | ((with_reducible show wpList _ _ _ (_ :: _) _ _); (with_reducible apply wpl_loadCH); (· exact cell_int); (· rfl); (· rfl); (· exact H); (· (repeat (first | (with_reducible exact List.mem_cons_self) | with_reducible apply List.mem_cons_of_mem))); (· exact dist17_get _ hfl); (simp only [Act.put, List.setIfInBounds_toArray, List.set_cons_zero, List.set_cons_succ])))
      go_ret
      exact ⟨_, [], rfl, .inl ⟨rfl, .inr (.inr (.inr ⟨d, hdist, r1⟩))⟩, (H.tail.nilRow _ _).slide⟩
    · have hr2 : ∀ d, IsDist (edge c) t d → d f < 17 ∧ ((d f : Int) == 17) = false ∧ decide ((d f : Int) = 17) = false := fun d hd => by
        have h1 : d f ≠ 17 := fun e => hr fun d' hd' => by rw [hd'.eq hd f]; exact e
        have h2 := hd.le f
        refine ⟨by omega, ?_, ?_⟩ <;> simp <;> omega
      clear hr
      go_enter Try.func40, Try.ntmps40
      go_wp2_with (first
        | go_skip
        | ((with_reducible refine Ans.callH (by assumption) H ?_); clear H; intro _ H)
        | ((with_reducible refine (hops_H t ht17.1 ht17.2 h H).mono ?_); clear H; rintro _ _ ⟨d, hdist, rfl, H⟩; (obtain ⟨r1, r2, r3⟩ := hr2 d hdist); clear hr2)
        | ((with_reducible show wpList _ _ _ (_ :: _) _ _); (with_reducible apply wpl_allocRH row_17i); (· rfl); (· exact H); (clear H; intro pd _ H); (simp only [Act.put, List.setIfInBounds_toArray, List.set_cons_zero, List.set_cons_succ]))
        | ((with_reducible show wpList _ _ _ (_ :: _) _ _); (with_reducible apply wpl_storeRH row_17i); (· rfl); (· rfl); (· rfl); (· with_reducible exact dist17_cells ..); (· exact H); (· (repeat (first | (with_reducible exact List.mem_cons_self) | with_reducible apply List.mem_cons_of_mem))); (· (simp only [row17_sz, Nat.reduceAdd, Nat.reduceLeDiff, Nat.le_refl]; done)); (· with_reducible exact dist17_splice ..); (· (repeat (first | (with_reducible exact Repl.here) | with_reducible apply Repl.there))); (clear H; intro _ H); (simp only [Act.put, List.setIfInBounds_toArray, List.set_cons_zero, List.set_cons_succ]))
        | ((with_reducible show wpList _ _ _ (_ :: _) _ _); (with_reducible apply wpl_loadCH); (· exact cell_int); (· rfl); (· rfl); (· exact H); (· (repeat (first | (with_reducible exact List.mem_cons_self) | with_reducible apply List.mem_cons_of_mem))); (· exact dist17_get _ hfl); (simp only [Act.put, List.setIfInBounds_toArray, List.set_cons_zero, List.set_cons_succ]))
        | ((with_reducible show wpList _ _ _ (_ :: _) _ _); (with_reducible apply wpl_makeC slP (n := 1) (m := d f + 1)); (· rfl); (· rfl); (· rfl); (· rfl); (· omega); (· omega); (· omega); (· exact H); (clear H; intro pm _ H); (simp only [Act.put, List.setIfInBounds_toArray, List.set_cons_zero, List.set_cons_succ]))
        | ((with_reducible show wpList _ _ _ (_ :: _) _ _); (with_reducible apply wpl_storeIH); (· exact cell_party); (· rfl); (· rfl); (· rfl); (· exact H); (· (repeat (first | (with_reducible exact List.mem_cons_self) | with_reducible apply List.mem_cons_of_mem))); (· (rw [size_madeCells]; omega)); (· rfl); (· (repeat (first | (with_reducible exact Repl.here) | with_reducible apply Repl.there))); (clear H; intro _ H); (simp only [Act.put, List.setIfInBounds_toArray, List.set_cons_zero, List.set_cons_succ])))
      have H0 := H.celOwnP (size := 1) (n := 1) (m := d f + 1) (by rw [made_len]; omega) (by omega) (by unfold maxLen; omega)
      clear H
      rw [made_head (by omega)] at H0
      go_loopg [8, 9] (d f) (fun m v i w2 => ShortOut W l c f t pd d m v i w2)
      case atStart => exact ⟨f, [f], rfl, r1, Nat.le_refl _, WayTo.start .., H0⟩
      case round =>
        obtain ⟨a, L, rfl, had, ham, hway, H'⟩ := hrel.out
        clear H0 hrel
        have H := H'
        clear H'
        have hain := hdist.ins a had
        have hLl := Lib.hid hway.len
        by_cases hat : a = t
        · subst hat
          go_wp2_with (go_skip)
          go_ret
          exact ⟨_, L, rfl, .inr ⟨E.out.1, E.out.2, hne, d, hdist, r1, hway.done hdist.top⟩, H.drop (.there .here)⟩
        · have e1 : ((a : Int) == (t : Int)) = false := by simp; omega
          have e2 : decide ((a : Int) = (t : Int)) = false := by simp; omega
          have e3 : ((a : Int) != (t : Int)) = true := by simp; omega
          have hnx := hdist.next had hat
          go_wp2_with (go_skip)
          have H0 := H
          clear H
          go_loopw [9, 10] (fun i j w2 => ShortIn W (OwnT 33 1 u8 L.length (L.map pv) :: Cel pd (dist17 d) 74 :: l) c a d i j w2) (fun _ j _ => 17 - (intOf j).toNat)
          case atStart => exact ⟨1, rfl, rfl, by omega, by omega, (fun q h1 h2 => by omega), H0⟩
          case round =>
            obtain ⟨k, rfl, rfl, hk1, hk17, hno, H'⟩ := hrel.out
            clear H0 hrel
            have H := H'
            clear H'
            by_cases hlt : k < 17
            · have hka : k ≤ 255 := by omega
              have haa : a ≤ 255 := by omega
              have ha17 : a < 17 := by omega
              have hdk := hdist.le k
              have hz : d a ≠ 0 := fun e => hat (hdist.zero e)
              have hw1 : wrap64 ((d a : Int) - 1) = (d a : Int) - 1 := IntWalk.wrap64_in _ ⟨by omega, by omega⟩
              have hcap := h (OwnT 33 1 u8 L.length (L.map pv) :: Cel pd (dist17 d) 74 :: l) a k (fun x hx => List.mem_cons_of_mem _ (List.mem_cons_of_mem _ hx)) haa hka
              by_cases hg : d k + 1 = d a
              · have g1 : ((d k : Int) == (d a : Int) - 1) = true := by simp; omega
                have g2 : decide ((d k : Int) = (d a : Int) - 1) = true := by simp; omega
                by_cases hA : 0 < capOf c a k
                · have c1 : decide (capOf c a k > 0) = true := by simpa using hA
                  have HN := Lib.hid (⟨hk1, by omega, ⟨hg, edge_yes hA⟩, hno⟩ : IsNext (edge c) d a k)
                  have hLb : L.length + 1 ≤ maxLen := by have := hLl.out; unfold maxLen; omega
                  have hLb2 : (L.length + 1) * 1 ≤ 140737488355328 := by have := hLl.out; omega
                  have HG := Lib.hid hg
                  clear hno hnx hg
                  go_wp2_with (go_skip)
                  refine wp_region_H H (by kernel_rfl) (by kernel_rfl) ?_
                  repeat (first | go_big_quiet_skip | ((with_reducible apply wpQ_loadCH); (· exact cell_int); (· rfl); (· rfl); (· (repeat (first | (with_reducible exact List.mem_cons_self) | with_reducible apply List.mem_cons_of_mem))); (· (first | exact dist17_get _ hlt | exact dist17_get _ ha17)); (simp only [Act.put, List.setIfInBounds_toArray, List.set_cons_zero, List.set_cons_succ])) | go_big_quiet_step (exact hcap.quiet))
                  refine wpQuiet_nil ?_
                  clear H
                  intro _ H
                  go_wp2_with (first
                    | go_skip
                    | ((with_reducible show wpList _ _ _ (_ :: _) _ _); (with_reducible apply wpl_bsOnes _ [.int .u8 (k : Int)]); (· rfl); (· rfl); (· rfl); (· decide); (· decide); (· exact pv_ones k); (· exact bs_party); (· rfl); (· exact H); (clear H; intro pk _ H); (simp only [Act.put, List.setIfInBounds_toArray, List.set_cons_zero, List.set_cons_succ]))
                    | ((with_reducible show wpList _ _ _ (_ :: _) _ _); (with_reducible apply wpl_appendO slP); (· rfl); (· rfl); (· rfl); (· rfl); (· exact H.perm (.swap _ _ _)); (· exact H.celRd List.mem_cons_self); (· rfl); (· exact pv_one k); (· exact hLb); (· exact hLb2); (clear H; intro v2 _ H); (simp only [Act.put, List.setIfInBounds_toArray, List.set_cons_zero, List.set_cons_succ])))
                  go_roundg (d k)
                  case measure => have := HG.out; omega
                  case rel =>
                    refine ⟨k, L ++ [k], rfl, by have := HG.out; omega, Nat.le_refl _, hway.snoc HN.out, ?_⟩
                    rw [List.length_append, List.map_append]
                    exact H.drop (.there .here)
                · have c1 : decide (capOf c a k > 0) = false := by simpa using hA
                  have HN := Lib.hid (show ∀ q, 1 ≤ q → q < k + 1 → ¬ GoodP (edge c) d a q from fun q h1 h2 => by
                    by_cases e : q = k
                    · subst e; intro hG; have h2 := hG.2; rw [edge_no hA] at h2; cases h2
                    · exact hno q h1 (by omega))
                  clear hno hnx hg
                  go_wp2_with (go_skip)
                  refine wp_region_H H (by kernel_rfl) (by kernel_rfl) ?_
                  repeat (first | go_big_quiet_skip | ((with_reducible apply wpQ_loadCH); (· exact cell_int); (· rfl); (· rfl); (· (repeat (first | (with_reducible exact List.mem_cons_self) | with_reducible apply List.mem_cons_of_mem))); (· (first | exact dist17_get _ hlt | exact dist17_get _ ha17)); (simp only [Act.put, List.setIfInBounds_toArray, List.set_cons_zero, List.set_cons_succ])) | go_big_quiet_step (exact hcap.quiet))
                  refine wpQuiet_nil ?_
                  clear H
                  intro _ H
                  go_wp2_with (go_skip)
                  refine ⟨?_, ?measure⟩
                  · exact ⟨⟨k + 1, rfl, by go_num, by omega, by omega, HN.out, H⟩⟩
                  case measure => simp [intOf]; omega
              · have g1 : ((d k : Int) == (d a : Int) - 1) = false := by simp; omega
                have g2 : decide ((d k : Int) = (d a : Int) - 1) = false := by simp; omega
                have HN := Lib.hid (show ∀ q, 1 ≤ q → q < k + 1 → ¬ GoodP (edge c) d a q from fun q h1 h2 => by
                  by_cases e : q = k
                  · subst e; intro hG; exact hg hG.1
                  · exact hno q h1 (by omega))
                clear hno hnx hg
                go_wp2_with (go_skip)
                refine wp_region_H H (by kernel_rfl) (by kernel_rfl) ?_
                repeat (first | go_big_quiet_skip | ((with_reducible apply wpQ_loadCH); (· exact cell_int); (· rfl); (· rfl); (· (repeat (first | (with_reducible exact List.mem_cons_self) | with_reducible apply List.mem_cons_of_mem))); (· (first | exact dist17_get _ hlt | exact dist17_get _ ha17)); (simp only [Act.put, List.setIfInBounds_toArray, List.set_cons_zero, List.set_cons_succ])) | go_big_quiet_step (exact hcap.quiet))
                refine wpQuiet_nil ?_
                clear H
                intro _ H
                go_wp2_with (go_skip)
                refine ⟨?_, ?measure⟩
                · exact ⟨⟨k + 1, rfl, by go_num, by omega, by omega, HN.out, H⟩⟩
                case measure => simp [intOf]; omega
            · exact absurd (fun q h1 h2 => hno q h1 (by omega)) hnx
end
end Go.Proofs.Ytglehneaphigdaa
