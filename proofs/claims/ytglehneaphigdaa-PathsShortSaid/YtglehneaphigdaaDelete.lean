/- slices.DeleteFunc of edges. -/
import Derived.Test.YtglehneaphigdaaClone6
namespace Go.Proofs.Ytglehneaphigdaa
open Go.RowKit
set_option linter.unusedSimpArgs false
set_option linter.unusedVariables false
theorem keep_take : ∀ (F : List Edg), (F.take (firstDel F)).filter keepE = F.take (firstDel F)
  | [] => rfl
  | x :: F => by
    by_cases e : keepE x = true
    · rw [firstDel, if_pos e, List.take_succ_cons, List.filter_cons_of_pos e, keep_take F]
    · rw [firstDel, if_neg e]; rfl
theorem take_filter_yes {F : List Edg} {k : Nat} (h : k < F.length) (e : keepE F[k] = true) : (F.take (k + 1)).filter keepE = (F.take k).filter keepE ++ [F[k]] := by
  rw [List.take_add_one, List.getElem?_eq_getElem h, Option.toList_some, List.filter_append, List.filter_cons_of_pos e]
  rfl
theorem take_filter_no {F : List Edg} {k : Nat} (h : k < F.length) (e : keepE F[k] = false) : (F.take (k + 1)).filter keepE = (F.take k).filter keepE := by
  rw [List.take_add_one, List.getElem?_eq_getElem h, Option.toList_some, List.filter_append, List.filter_cons_of_neg (by rw [e]; exact Bool.false_ne_true)]
  simp
structure DelInv (F G : List Edg) (k j : Nat) : Prop where
  len : G.length = F.length
  lt : j < k
  take : G.take j = (F.take k).filter keepE
  drop : G.drop k = F.drop k
theorem DelInv.start {F : List Edg} (h : firstDel F < F.length) : DelInv F F (firstDel F + 1) (firstDel F) :=
  ⟨rfl, Nat.lt_succ_self _, by rw [take_filter_no h (firstDel_at F h), keep_take], rfl⟩
theorem DelInv.at {F G : List Edg} {k j : Nat} (h : DelInv F G k j) (hk : k < F.length) : G[k]'(by rw [h.len]; exact hk) = F[k] := by
  have h1 : (G.drop k)[0]? = (F.drop k)[0]? := by rw [h.drop]
  rw [List.getElem?_drop, List.getElem?_drop, Nat.add_zero, List.getElem?_eq_getElem (by rw [h.len]; exact hk), List.getElem?_eq_getElem hk] at h1
  exact Option.some.inj h1
theorem DelInv.no {F G : List Edg} {k j : Nat} (h : DelInv F G k j) (hk : k < F.length) (e : keepE F[k] = false) : DelInv F G (k + 1) j :=
  ⟨h.len, Nat.lt_succ_of_lt h.lt, by rw [take_filter_no hk e, h.take], by rw [← List.drop_drop, h.drop, List.drop_drop]⟩
theorem DelInv.yes {F G : List Edg} {k j : Nat} (h : DelInv F G k j) (hk : k < F.length) (e : keepE F[k] = true) : DelInv F (G.set j F[k]) (k + 1) (j + 1) := by
  have hj : j < G.length := by have := h.lt; rw [h.len]; omega
  refine ⟨by rw [List.length_set, h.len], Nat.succ_lt_succ h.lt, ?_, ?_⟩
  · rw [take_filter_yes hk e, ← h.take, List.take_add_one, List.getElem?_set_self hj, Option.toList_some, List.take_set_of_le (Nat.le_refl _)]
  · rw [List.drop_set_of_lt (by have := h.lt; omega), ← List.drop_drop, h.drop, List.drop_drop]
theorem DelInv.done {F G : List Edg} {j : Nat} (h : DelInv F G F.length j) : G.take j = F.filter keepE := by rw [h.take, List.take_length]
theorem filter_all {F : List Edg} (h : ¬ firstDel F < F.length) : F.filter keepE = F := by
  have h2 : firstDel F = F.length := by have := firstDel_le F; omega
  have := keep_take F
  rw [h2, List.take_length] at this
  exact this
def DelPost (W : World) (l : List Thing) (F : List Edg) (g c : Nat) (e : Ending) (w' : World) : Prop :=
  ∃ c1, e = .returned (.slice (some ⟨g, 0, none⟩) (F.filter keepE).length c) ∧ c1.toList.take ((F.filter keepE).length * 3) = edgL (F.filter keepE) ∧ Heap W (Cel g c1 64 :: l) w'
structure DelLoop (W : World) (l : List Thing) (F : List Edg) (r : List Value) (g n : Nat) (vj vk : Value) (wr : World) : Prop where
  out : ∃ (k j : Nat) (G : List Edg), k ≤ n ∧ vj = .int .i64 (j : Int) ∧ vk = .int .i64 (k : Int) ∧ DelInv F G k j ∧ Heap W (Cel g (ec G r) 64 :: l) wr
section
variable {W w : World} {l : List Thing}
set_option maxRecDepth 100000
set_option maxHeartbeats 2000000
theorem delete_H (g n c : Nat) (F : List Edg) (r : List Value) (hl : F.length = n) (hn : n ≤ 1000000) (hnc : n ≤ c) (hF : ∀ x ∈ F, EdgOk x) (H : Heap W (Cel g (ec F r) 64 :: l) w) :
    Calls Try.prog 54 #[.slice (some ⟨g, 0, none⟩) n c, .func (.func 56) #[] #[]] w (DelPost W l F g c) := by
  have I := index_E (W := W) (l := Cel g (ec F r) 64 :: l) g n c F r hl hn hF List.mem_cons_self
  by_cases hd : firstDel F < F.length
  · rw [delAt_yes hd] at I
    have hs := DelInv.start hd
    have hj0 : firstDel F < n := by rw [← hl]; exact hd
    have HL := Lib.hid hl
    have HF := Lib.hid hF
    clear hl hF hd
    have hne : ¬ ((firstDel F : Int) = -1) := by omega
    have hne2 : ((firstDel F : Int) == -1) = false := by simp
    have hne3 : decide ((firstDel F : Int) = -1) = false := by simp
    go_enter Try.func54, Try.ntmps54
    go_wp2_with (first | go_skip | ((with_reducible refine AnsH.call (by assumption) H ?_); clear H; intro _ H))
    have H0 := H
    clear H
    go_loopw [5, 6] (fun vj vk wr => DelLoop W l F r g n vj vk wr) (fun _ vk _ => n - (intOf vk).toNat)
    case atStart => exact ⟨_, _, F, by omega, rfl, by go_num, hs, H0⟩
    case round =>
      obtain ⟨k, j, G, hk, rfl, rfl, hI, H'⟩ := hrel.out
      clear H0 hrel hs I hne hne2 hne3
      have H := H'
      clear H'
      have hjk := hI.lt
      by_cases hlt : k < n
      · have hkF : k < F.length := by rw [HL.out]; exact hlt
        have hkG : k < G.length := by rw [hI.len]; exact hkF
        have hjG : j < G.length := by omega
        have hat := hI.at hkF
        have hpart := ec_part (r := r) hkG
        rw [hat] at hpart
        have hok := HF.out F[k] (List.getElem_mem hkF)
        have hsz : k * 3 + 3 ≤ (ec G r).size := by rw [ec_sz]; omega
        have hsj : j * 3 + 3 ≤ (ec G r).size := by rw [ec_sz]; omega
        cases e : keepE F[k]
        · have HI := Lib.hid (hI.no hkF e)
          have D := fun px => del_H (W := W) (l := Cel px (edg F[k].f F[k].t F[k].c) 64 :: Cel g (ec G r) 64 :: l) F[k] hok
          rw [e] at D
          clear hI hat hok e
          generalize F[k] = x at *
          go_wp2_with (first
            | go_skip
            | ((with_reducible show wpList _ _ _ (_ :: _) _ _); (with_reducible apply wpl_loadRH row_edg); (· rfl); (· rfl); (· exact H); (· exact List.mem_cons_self); (· exact hsz); (· exact hpart); (simp only [Act.put, List.setIfInBounds_toArray, List.set_cons_zero, List.set_cons_succ]))
            | ((with_reducible show wpList _ _ _ (_ :: _) _ _); (with_reducible apply wpl_allocRH row_edg); (· rfl); (· exact H); (clear H; intro px _ H); (simp only [Act.put, List.setIfInBounds_toArray, List.set_cons_zero, List.set_cons_succ]))
            | ((with_reducible show wpList _ _ _ (_ :: _) _ _); (with_reducible apply wpl_storeRH row_edg); (· rfl); (· rfl); (· rfl); (· with_reducible exact edg_cells ..); (· exact H); (· (repeat (first | (with_reducible exact List.mem_cons_self) | with_reducible apply List.mem_cons_of_mem))); (· (simp only [edg_sz, Nat.reduceAdd, Nat.reduceLeDiff, Nat.le_refl]; done)); (· with_reducible exact edg_splice ..); (· (repeat (first | (with_reducible exact Repl.here) | with_reducible apply Repl.there))); (clear H; intro _ H); (simp only [Act.put, List.setIfInBounds_toArray, List.set_cons_zero, List.set_cons_succ]))
            | ((with_reducible show wpList _ _ _ (_ :: _) _ _); (with_reducible apply wpl_loadRH row_edg); (· rfl); (· rfl); (· exact H); (· (repeat (first | (with_reducible exact List.mem_cons_self) | with_reducible apply List.mem_cons_of_mem))); (· (simp only [edg_sz, Nat.reduceAdd, Nat.reduceLeDiff, Nat.le_refl]; done)); (· with_reducible exact edg_all ..); (simp only [Act.put, List.setIfInBounds_toArray, List.set_cons_zero, List.set_cons_succ]))
            | ((with_reducible refine AnsH.call (D _) H ?_); clear H; intro _ H))
          refine ⟨⟨k + 1, j, G, by omega, rfl, by go_num, HI.out, H.tail⟩, ?measure⟩
          case measure => simp [intOf]; omega
        · have HI := Lib.hid (hI.yes hkF e)
          have D := fun px => del_H (W := W) (l := Cel px (edg F[k].f F[k].t F[k].c) 64 :: Cel g (ec G r) 64 :: l) F[k] hok
          rw [e] at D
          clear hI hat hok e
          generalize F[k] = x at *
          have hput := ec_put (r := r) x hjG
          go_wp2_with (first
            | go_skip
            | ((with_reducible show wpList _ _ _ (_ :: _) _ _); (with_reducible apply wpl_loadRH row_edg); (· rfl); (· rfl); (· exact H); (· exact List.mem_cons_self); (· exact hsz); (· exact hpart); (simp only [Act.put, List.setIfInBounds_toArray, List.set_cons_zero, List.set_cons_succ]))
            | ((with_reducible show wpList _ _ _ (_ :: _) _ _); (with_reducible apply wpl_allocRH row_edg); (· rfl); (· exact H); (clear H; intro px _ H); (simp only [Act.put, List.setIfInBounds_toArray, List.set_cons_zero, List.set_cons_succ]))
            | ((with_reducible show wpList _ _ _ (_ :: _) _ _); (with_reducible apply wpl_storeRH row_edg); (· rfl); (· rfl); (· rfl); (· exact edg_cells ..); (· exact H); (· exact List.mem_cons_of_mem _ List.mem_cons_self); (· exact hsj); (· exact hput); (· exact Repl.there Repl.here); (clear H; intro _ H); (simp only [Act.put, List.setIfInBounds_toArray, List.set_cons_zero, List.set_cons_succ]))
            | ((with_reducible show wpList _ _ _ (_ :: _) _ _); (with_reducible apply wpl_storeRH row_edg); (· rfl); (· rfl); (· rfl); (· with_reducible exact edg_cells ..); (· exact H); (· (repeat (first | (with_reducible exact List.mem_cons_self) | with_reducible apply List.mem_cons_of_mem))); (· (simp only [edg_sz, Nat.reduceAdd, Nat.reduceLeDiff, Nat.le_refl]; done)); (· with_reducible exact edg_splice ..); (· (repeat (first | (with_reducible exact Repl.here) | with_reducible apply Repl.there))); (clear H; intro _ H); (simp only [Act.put, List.setIfInBounds_toArray, List.set_cons_zero, List.set_cons_succ]))
            | ((with_reducible show wpList _ _ _ (_ :: _) _ _); (with_reducible apply wpl_loadRH row_edg); (· rfl); (· rfl); (· exact H); (· (repeat (first | (with_reducible exact List.mem_cons_self) | with_reducible apply List.mem_cons_of_mem))); (· (simp only [edg_sz, Nat.reduceAdd, Nat.reduceLeDiff, Nat.le_refl]; done)); (· with_reducible exact edg_all ..); (simp only [Act.put, List.setIfInBounds_toArray, List.set_cons_zero, List.set_cons_succ]))
            | ((with_reducible refine AnsH.call (D _) H ?_); clear H; intro _ H))
          refine ⟨⟨k + 1, j + 1, _, by omega, by go_num, by go_num, HI.out, H.tail⟩, ?measure⟩
          case measure => simp [intOf]; omega
      · obtain rfl : k = n := by omega
        have hD := (show G.take j = F.filter keepE by have h := hI; rw [← HL.out] at h; exact h.done)
        have hGl : G.length = k := by rw [hI.len]; exact HL.out
        have hfit : j * 3 + (k - j) * 3 ≤ (ec G r).size := by rw [ec_sz, hGl]; omega
        have hz1 : ∀ u ∈ (Value.agg #[.int .u8 0, .int .u8 0, .int .i8 0]).cells, u.oneCell' = true := by
          intro u hu
          simp [Value.cells] at hu
          rcases hu with rfl | rfl | rfl <;> rfl
        have HDD := Lib.hid hD
        have HGL := Lib.hid hGl
        clear hI hD hGl
        go_wp2_with (first
          | go_skip
          | ((with_reducible show wpList _ _ _ (_ :: _) _ _); (with_reducible apply wpl_clearC slE); (· exact hz1); (· rfl); (· rfl); (· rfl); (· exact H); (· exact hfit); (clear H; intro c1 _ hc1 hc2 H); (simp only [Act.put, List.setIfInBounds_toArray, List.set_cons_zero, List.set_cons_succ])))
        go_ret
        have hlen : (F.filter keepE).length = j := by rw [← HDD.out, List.length_take, HGL.out]; omega
        refine ⟨c1, ?_, ?_, H⟩
        · rw [hlen]; rfl
        · rw [hlen, hc2, ← HDD.out, ← edgL_take G j (by rw [HGL.out]; omega)]
          unfold ec
          rw [List.toList_toArray, List.take_append_of_le_length (by rw [edgL_len, HGL.out]; omega)]
  · rw [delAt_no hd] at I
    have HD := Lib.hid (filter_all hd)
    clear hd
    go_enter Try.func54, Try.ntmps54
    go_wp2_with (first | go_skip | ((with_reducible refine AnsH.call (by assumption) H ?_); clear H; intro _ H))
    go_ret
    refine ⟨ec F r, ?_, ?_, H⟩
    · rw [HD.out, hl]; rfl
    · rw [HD.out]
      unfold ec
      rw [List.toList_toArray, ← edgL_len]
      exact List.take_left
end
end Go.Proofs.Ytglehneaphigdaa
