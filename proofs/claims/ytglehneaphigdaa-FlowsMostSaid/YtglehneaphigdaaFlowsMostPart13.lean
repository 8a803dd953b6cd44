/- FlowsMost: part 13 of its proof: Clone6, Delete, Concat. -/
import Derived.Test.YtglehneaphigdaaFlowsMostPart12
import Derived.Lib.SliceRun
import Derived.Lib.AppendZeros
/- paths.Round's list: slices.Clone, IndexFunc, DeleteFunc of edges. -/
namespace Go.Proofs.Ytglehneaphigdaa
open Go.RowKit
set_option linter.unusedSimpArgs false
set_option linter.unusedVariables false
theorem Heap.celRow {W w : World} {l : List Thing} {g e size n m : Nat} {c : Array Value} (H : Heap W (Cel g c e :: l) w) (hc : c.size = m * size) (hn : n ≤ m) (hm : m ≤ maxLen) : Heap W (RowT e size (.slice (some ⟨g, 0, none⟩) n m) n (c.toList.take (n * size)) :: l) w := by
  have h2 : n * size ≤ m * size := Nat.mul_le_mul_right _ hn
  exact H.head (World.grownBy.refl _ _) ⟨by simp; omega, .inr ⟨g, m, c, rfl, Nat.zero_le _, H.blk List.mem_cons_self, hn, hm, hc, rfl⟩⟩ (.inl rfl)
/-- A row that is not empty, as its block. -/
theorem Heap.rowCel {W w : World} {l : List Thing} {e size n : Nat} {v : Value} {xs : List Value} (H : Heap W (RowT e size v n xs :: l) w) (hn : 0 < n) :
    ∃ g m c, v = .slice (some ⟨g, 0, none⟩) n m ∧ n ≤ m ∧ m ≤ maxLen ∧ c.size = m * size ∧ c.toList.take (n * size) = xs ∧ Heap W (Cel g c e :: l) w := by
  obtain ⟨h1, ⟨_, h2⟩ | ⟨g, m, c, hv, _, hg, hnm, hm, hs, ht⟩⟩ := H.ok _ List.mem_cons_self
  · omega
  · refine ⟨g, m, c, hv, hnm, hm, hs, ht, H.head (World.grownBy.refl _ _) hg (.inl ?_)⟩
    subst hv
    rfl
/-- A block that begins with these edges. -/
def ec (F : List Edg) (r : List Value) : Array Value := (edgL F ++ r).toArray
theorem ec_sz (F : List Edg) (r : List Value) : (ec F r).size = F.length * 3 + r.length := by simp [ec, edgL_len]
theorem ec_of {c : Array Value} {F : List Edg} {n : Nat} (h : c.toList.take n = edgL F) : ∃ r, c = ec F r := by
  refine ⟨c.toList.drop n, ?_⟩
  unfold ec
  rw [← h, List.take_append_drop]
theorem edgL_take (F : List Edg) (i : Nat) (h : i ≤ F.length) : (edgL F).take (i * 3) = edgL (F.take i) := by
  have e : edgL F = edgL (F.take i) ++ edgL (F.drop i) := by rw [← edgL_app, List.take_append_drop]
  have hl : (edgL (F.take i)).length = i * 3 := by rw [edgL_len, List.length_take, Nat.min_eq_left h]
  rw [e, ← hl]
  exact List.take_left
theorem edgL_drop (F : List Edg) (i : Nat) (h : i ≤ F.length) : (edgL F).drop (i * 3) = edgL (F.drop i) := by
  have e : edgL F = edgL (F.take i) ++ edgL (F.drop i) := by rw [← edgL_app, List.take_append_drop]
  have hl : (edgL (F.take i)).length = i * 3 := by rw [edgL_len, List.length_take, Nat.min_eq_left h]
  rw [e, ← hl]
  exact List.drop_left
theorem edgL_set (F : List Edg) (i : Nat) (x : Edg) (h : i < F.length) : edgL (F.set i x) = (edgL F).take (i * 3) ++ (edgV x ++ (edgL F).drop (i * 3 + 3)) := by
  rw [List.set_eq_take_append_cons_drop, if_pos h, edgL_app, edgL_take F i (by omega), show i * 3 + 3 = (i + 1) * 3 by omega, edgL_drop F (i + 1) (by omega)]
  rfl
theorem ec_part {F : List Edg} {r : List Value} {k : Nat} (h : k < F.length) : (ec F r).extract (k * 3) (k * 3 + 3) = edg F[k].f F[k].t F[k].c := by
  unfold ec
  have h1 := edgL_at F k h
  have h2 : k * 3 + 3 ≤ (edgL F).length := by rw [edgL_len]; omega
  apply Array.ext'
  rw [List.extract_toArray, List.toList_toArray, List.extract_eq_take_drop]
  rw [show k * 3 + 3 - k * 3 = 3 by omega, List.drop_append_of_le_length (by omega), List.take_append_of_le_length (by simp; omega), h1]
  rfl
theorem ec_put {F : List Edg} {r : List Value} {k : Nat} (x : Edg) (h : k < F.length) : splice (ec F r) (k * 3) (edg x.f x.t x.c) = ec (F.set k x) r := by
  unfold ec splice
  rw [edgL_set F k x h]
  have h2 : k * 3 + 3 ≤ (edgL F).length := by rw [edgL_len]; omega
  have h3 : (edg x.f x.t x.c).size = 3 := rfl
  have h4 : (edg x.f x.t x.c).toList = edgV x := rfl
  rw [h3, h4, List.toList_toArray, List.take_append_of_le_length (by omega), List.drop_append_of_le_length (by omega)]
  simp only [List.append_assoc]
def keepE (x : Edg) : Bool := mayP x.f && mayP x.t
theorem slE : SlTy Try.prog 61 64 3 3 (.agg #[.int .u8 0, .int .u8 0, .int .i8 0]) := slTy_mk Try.underlying61 (by kernel_rfl) rfl (by decide)
theorem edgL_ones (F : List Edg) : OneCells (edgL F) := by
  intro u hu
  obtain ⟨x, _, hx⟩ := List.mem_flatMap.1 hu
  simp [edgV] at hx
  rcases hx with rfl | rfl | rfl <;> rfl
theorem wpl_append00 {ops : Array Oper} {rest : List Oper} {o : Oper} {a : Act} {w : World} {Q : Exit → Act → World → Prop} {t e size bytes : Nat} {z : Value} (T : SlTy Try.prog t e size bytes z) (hgd : o.guard = none) {s x : Operand}
    (ho : o.op = .call { callee := .builtin .append, args := #[s, x], argTypes := #[t, t] }) {q : Nat} {b : Addr} {c : Nat} (hs : a.eval s = .slice (some ⟨q, 0, none⟩) 0 0) (hx : a.eval x = .slice (some b) 0 c)
    (h : wpList Try.prog ops Q rest (a.put o.dst (.slice (some ⟨q, 0, none⟩) 0 0)) w) : wpList Try.prog ops Q (o :: rest) a w := by
  obtain ⟨i, hi, hz, hsi, hbi⟩ := T.inf
  have hr : (Builtin.append_ #[t, t] o.type #[.slice (some ⟨q, 0, none⟩) 0 0, .slice (some b) 0 c]).run Try.prog w = .ok (.slice (some ⟨q, 0, none⟩) 0 0) w := by
    simp [Builtin.append_, run_underlying T.und, sizeOf, typeInfo, hi, Builtin.lenOf, Builtin.firstCells, loadCells, loadCellsFrom, storeCells]
  refine wpList_plain hgd fun K hK => ?_
  unfold Oper.wp execOp
  simp only [ho, resolve, invoke, builtin, Sem.run_bind, Sem.run_pure, Result.andThen_ok, List.map_toArray, List.map_cons, List.map_nil, hs, hx, hr]
  exact hK _ _ h
/-- What Clone answers. -/
def ClonePost (W : World) (l : List Thing) (F : List Edg) (e : Ending) (w' : World) : Prop :=
  ∃ a c, e = .returned (.slice a F.length c) ∧ F.length ≤ c ∧ c ≤ maxLen ∧ ((F = [] ∧ Heap W l w') ∨ ∃ g r, a = some ⟨g, 0, none⟩ ∧ (ec F r).size = c * 3 ∧ Heap W (Cel g (ec F r) 64 :: l) w')
section
variable {W w : World} {l : List Thing}
set_option maxRecDepth 100000
set_option maxHeartbeats 2000000
theorem del_H (x : Edg) (hx : EdgOk x) : AnsH W l 56 #[.agg (edg x.f x.t x.c)] (.bool (!keepE x)) := by
  intro w H
  obtain ⟨a, b, n⟩ := x
  obtain ⟨h1, h2, h3, h4⟩ := hx
  simp only at h1 h2 h3 h4
  have m1 := may6 a h1
  have m2 := may6 b h2
  unfold keepE
  cases e1 : mayP a
  · rw [e1] at m1
    clear e1
    go_enter Try.func56, Try.ntmps56
    go_wp2_with (first
      | go_skip
      | ((with_reducible show wpList _ _ _ (_ :: _) _ _); (with_reducible apply wpl_boxRH); (· rfl); (· rfl); (· exact H); (clear H; intro p _ H); (simp only [Act.put, List.setIfInBounds_toArray, List.set_cons_zero, List.set_cons_succ]))
      | ((with_reducible show wpList _ _ _ (_ :: _) _ _); (with_reducible apply wpl_loadCH); (· exact cell_party); (· rfl); (· rfl); (· exact H); (· (repeat (first | (with_reducible exact List.mem_cons_self) | with_reducible apply List.mem_cons_of_mem))); (· (with_reducible first | exact edg_g0 .. | exact edg_g1 .. | exact edg_g2 ..)); (simp only [Act.put, List.setIfInBounds_toArray, List.set_cons_zero, List.set_cons_succ]))
      | ((with_reducible refine Ans.callH (by assumption) H ?_); clear H; intro _ H))
    go_ret
    exact ⟨rfl, H.tail⟩
  · rw [e1] at m1
    clear e1
    cases e2 : mayP b
    · rw [e2] at m2
      clear e2
      go_enter Try.func56, Try.ntmps56
      go_wp2_with (first
        | go_skip
        | ((with_reducible show wpList _ _ _ (_ :: _) _ _); (with_reducible apply wpl_boxRH); (· rfl); (· rfl); (· exact H); (clear H; intro p _ H); (simp only [Act.put, List.setIfInBounds_toArray, List.set_cons_zero, List.set_cons_succ]))
        | ((with_reducible show wpList _ _ _ (_ :: _) _ _); (with_reducible apply wpl_loadCH); (· exact cell_party); (· rfl); (· rfl); (· exact H); (· (repeat (first | (with_reducible exact List.mem_cons_self) | with_reducible apply List.mem_cons_of_mem))); (· (with_reducible first | exact edg_g0 .. | exact edg_g1 .. | exact edg_g2 ..)); (simp only [Act.put, List.setIfInBounds_toArray, List.set_cons_zero, List.set_cons_succ]))
        | ((with_reducible refine Ans.callH (by assumption) H ?_); clear H; intro _ H))
      go_ret
      exact ⟨rfl, H.tail⟩
    · rw [e2] at m2
      clear e2
      go_enter Try.func56, Try.ntmps56
      go_wp2_with (first
        | go_skip
        | ((with_reducible show wpList _ _ _ (_ :: _) _ _); (with_reducible apply wpl_boxRH); (· rfl); (· rfl); (· exact H); (clear H; intro p _ H); (simp only [Act.put, List.setIfInBounds_toArray, List.set_cons_zero, List.set_cons_succ]))
        | ((with_reducible show wpList _ _ _ (_ :: _) _ _); (with_reducible apply wpl_loadCH); (· exact cell_party); (· rfl); (· rfl); (· exact H); (· (repeat (first | (with_reducible exact List.mem_cons_self) | with_reducible apply List.mem_cons_of_mem))); (· (with_reducible first | exact edg_g0 .. | exact edg_g1 .. | exact edg_g2 ..)); (simp only [Act.put, List.setIfInBounds_toArray, List.set_cons_zero, List.set_cons_succ]))
        | ((with_reducible refine Ans.callH (by assumption) H ?_); clear H; intro _ H))
      go_ret
      exact ⟨rfl, H.tail⟩
theorem clone_H (ea : Option Addr) (en ec0 : Nat) (F : List Edg) (hl : F.length = en) (hn : en ≤ 1000000) (R : ∀ w', Heap W l w' → Rd w' ea (edgL F)) (H : Heap W l w) :
    Calls Try.prog 55 #[.slice ea en ec0] w (ClonePost W l F) := by
  have HL := Lib.hid hl
  have HR := Lib.hid R
  clear hl R
  cases ea with
  | none =>
    have hz : en = 0 := by
      apply Classical.byContradiction
      intro hne
      obtain ⟨b, o, he, _⟩ := HR.out w H 0 (by rw [edgL_len, HL.out]; omega)
      cases he
    subst hz
    have hF : F = [] := List.eq_nil_of_length_eq_zero HL.out
    have hnil : ∀ V, (binOp .eql 61 (.slice none 0 ec0) (.slice none 0 0)).run Try.prog V = .ok (.bool true) V := fun V => Lib.run_eql_slice_nil V _ _ none 0 ec0 0 0 Try.underlying61
    go_enter Try.func55, Try.ntmps55
    go_wp2_with (go_skip)
    go_ret
    subst hF
    exact ⟨none, 0, rfl, Nat.le_refl _, by unfold maxLen; omega, .inl ⟨rfl, H⟩⟩
  | some a0 =>
    obtain ⟨b, o, sp⟩ := a0
    have hsp : F = [] ∨ sp = none := by
      rcases Nat.eq_zero_or_pos F.length with h | h
      · exact .inl (List.eq_nil_of_length_eq_zero h)
      · obtain ⟨b', o', he, _⟩ := HR.out w H 0 (by rw [edgL_len]; omega)
        cases he
        exact .inr rfl
    have hnil : ∀ V, (binOp .eql 61 (.slice (some ⟨b, o, sp⟩) en ec0) (.slice none 0 0)).run Try.prog V = .ok (.bool false) V := fun V => Lib.run_eql_slice_nil V _ _ (some ⟨b, o, sp⟩) en ec0 0 0 Try.underlying61
    rcases Nat.eq_zero_or_pos en with h0 | h0
    · subst h0
      have hF : F = [] := List.eq_nil_of_length_eq_zero HL.out
      go_enter Try.func55, Try.ntmps55
      go_wp2_with (first
        | go_skip
        | ((with_reducible show wpList _ _ _ (_ :: _) _ _); (with_reducible apply wpl_bs0); (· rfl); (· exact slE); (· exact H); (clear H; intro pq _ H); (simp only [Act.put, List.setIfInBounds_toArray, List.set_cons_zero, List.set_cons_succ]))
        | ((with_reducible show wpList _ _ _ (_ :: _) _ _); (with_reducible apply wpl_append00 slE); (· rfl); (· rfl); (· rfl); (· rfl); (simp only [Act.put, List.setIfInBounds_toArray, List.set_cons_zero, List.set_cons_succ])))
      go_ret
      subst hF
      exact ⟨_, 0, rfl, Nat.le_refl _, by unfold maxLen; omega, .inl ⟨rfl, H.tail⟩⟩
    · obtain rfl : sp = none := by
        rcases hsp with h | h
        · subst h; have := HL.out; simp at this; omega
        · exact h
      have h1 : 0 + en ≤ maxLen := by unfold maxLen; omega
      have h2 : (0 + en) * 3 ≤ 140737488355328 := by omega
      have h3 : (edgL F).length = en * 3 := by rw [edgL_len, HL.out]
      go_enter Try.func55, Try.ntmps55
      go_wp2_with (first
        | go_skip
        | ((with_reducible show wpList _ _ _ (_ :: _) _ _); (with_reducible apply wpl_bs0); (· rfl); (· exact slE); (· exact H); (clear H; intro pq _ H); (simp only [Act.put, List.setIfInBounds_toArray, List.set_cons_zero, List.set_cons_succ]))
        | ((with_reducible show wpList _ _ _ (_ :: _) _ _); (with_reducible apply wpl_appendH slE); (· rfl); (· rfl); (· rfl); (· rfl); (· exact H.celRow (n := 0) (m := 0) rfl (Nat.le_refl _) (Nat.zero_le _)); (· exact HR.out _ H.tail); (· exact h3); (· exact edgL_ones F); (· exact h1); (· exact h2); (clear H; intro v2 _ H); (simp only [Act.put, List.setIfInBounds_toArray, List.set_cons_zero, List.set_cons_succ])))
      go_ret
      obtain ⟨g, m, c, hv, hm1, hm2, hcs, hct, Hc⟩ := H.rowCel (by omega)
      have hct2 : c.toList.take (en * 3) = edgL F := by simpa using hct
      obtain ⟨r, rfl⟩ := ec_of hct2
      refine ⟨some ⟨g, 0, none⟩, m, ?_, by rw [HL.out]; omega, hm2, .inr ⟨g, r, rfl, hcs, Hc⟩⟩
      rw [HL.out, hv, Nat.zero_add]
      rfl
/-- Where the first one is that shall go. -/
def firstDel : List Edg → Nat
  | [] => 0
  | x :: F => if keepE x then firstDel F + 1 else 0
theorem firstDel_le : ∀ F : List Edg, firstDel F ≤ F.length
  | [] => Nat.le_refl _
  | x :: F => by have := firstDel_le F; unfold firstDel; split <;> simp <;> omega
theorem firstDel_keep : ∀ (F : List Edg) (k : Nat) (h : k < F.length), k < firstDel F → keepE F[k] = true
  | [], _, h, _ => by simp at h
  | x :: F, 0, h, hk => by
    unfold firstDel at hk
    by_cases e : keepE x = true
    · exact e
    · rw [if_neg e] at hk; omega
  | x :: F, k + 1, h, hk => by
    unfold firstDel at hk
    by_cases e : keepE x = true
    · rw [if_pos e] at hk
      exact firstDel_keep F k (by simpa using h) (by omega)
    · rw [if_neg e] at hk; omega
theorem firstDel_at : ∀ (F : List Edg) (h : firstDel F < F.length), keepE F[firstDel F] = false
  | [], h => by simp at h
  | x :: F, h => by
    by_cases e : keepE x = true
    · have h2 : firstDel (x :: F) = firstDel F + 1 := by rw [firstDel, if_pos e]
      have h3 : firstDel F < F.length := by rw [h2] at h; simpa using h
      have := firstDel_at F h3
      simp only [h2, List.getElem_cons_succ]
      exact this
    · have h2 : firstDel (x :: F) = 0 := by rw [firstDel, if_neg e]
      simp only [h2, List.getElem_cons_zero]
      simpa using e
/-- Its index; -1, if there is none. -/
def delAt (F : List Edg) : Int := if firstDel F < F.length then (firstDel F : Int) else -1
theorem delAt_yes {F : List Edg} (h : firstDel F < F.length) : delAt F = (firstDel F : Int) := if_pos h
theorem delAt_no {F : List Edg} (h : ¬ firstDel F < F.length) : delAt F = -1 := if_neg h
theorem index_E (g n c : Nat) (F : List Edg) (r : List Value) (hl : F.length = n) (hn : n ≤ 1000000) (hF : ∀ x ∈ F, EdgOk x) (m : Cel g (ec F r) 64 ∈ l) :
    AnsH W l 69 #[.slice (some ⟨g, 0, none⟩) n c, .func (.func 56) #[] #[]] (.int .i64 (delAt F)) := by
  intro w H
  have HL := Lib.hid hl
  have HF := Lib.hid hF
  clear hl hF
  go_enter Try.func69, Try.ntmps69
  go_wp2_with (go_skip)
  have H0 := H
  clear H
  go_loopw [8] (fun i wr => ∃ k : Nat, k ≤ firstDel F ∧ k ≤ n ∧ i = .int .i64 k ∧ Heap W l wr) (fun i _ => n - (intOf i).toNat)
  case atStart => exact ⟨0, Nat.zero_le _, Nat.zero_le _, rfl, H0⟩
  case round =>
    obtain ⟨k, hk, hkn, rfl, H'⟩ := hrel
    clear H0
    have H := H'
    clear H'
    by_cases hlt : k < n
    · have hkF : k < F.length := by rw [HL.out]; exact hlt
      have hpart := ec_part (r := r) hkF
      have hok := HF.out F[k] (List.getElem_mem hkF)
      have hsz : k * 3 + 3 ≤ (ec F r).size := by rw [ec_sz]; omega
      by_cases he : k = firstDel F
      · have hd : keepE F[k] = false := by
          have := firstDel_at F (by omega)
          subst he
          exact this
        have D := del_H (W := W) (l := l) F[k] hok
        generalize F[k] = x at *
        rw [hd] at D
        have HE := Lib.hid he
        clear he hd hok hkF
        go_wp2_with (first
          | go_skip
          | ((with_reducible show wpList _ _ _ (_ :: _) _ _); (with_reducible apply wpl_loadRH row_edg); (· rfl); (· rfl); (· exact H); (· exact m); (· exact hsz); (· exact hpart); (simp only [Act.put, List.setIfInBounds_toArray, List.set_cons_zero, List.set_cons_succ]))
          | ((with_reducible refine AnsH.call (by assumption) H ?_); clear H; intro _ H))
        go_ret
        rw [delAt_yes (by rw [← HE.out, HL.out]; exact hlt), ← HE.out]
        exact ⟨rfl, H⟩
      · have hd : keepE F[k] = true := firstDel_keep F k hkF (by omega)
        have D := del_H (W := W) (l := l) F[k] hok
        generalize F[k] = x at *
        rw [hd] at D
        have HE := Lib.hid he
        clear he hd hok hkF
        go_wp2_with (first
          | go_skip
          | ((with_reducible show wpList _ _ _ (_ :: _) _ _); (with_reducible apply wpl_loadRH row_edg); (· rfl); (· rfl); (· exact H); (· exact m); (· exact hsz); (· exact hpart); (simp only [Act.put, List.setIfInBounds_toArray, List.set_cons_zero, List.set_cons_succ]))
          | ((with_reducible refine AnsH.call (by assumption) H ?_); clear H; intro _ H))
        go_roundw
        case rel => exact ⟨k + 1, by have := HE.out; omega, by omega, by go_num, H⟩
        case measure => simp [intOf]; omega
    · have hnd : ¬ firstDel F < n := by omega
      have HN := Lib.hid hnd
      clear hnd
      go_wp2_with (go_skip)
      go_ret
      rw [delAt_no (by rw [HL.out]; exact HN.out)]
      exact ⟨rfl, H⟩
end
end Go.Proofs.Ytglehneaphigdaa

/- slices.DeleteFunc of edges. -/
namespace Go.Proofs.Ytglehneaphigdaa
open Go.RowKit
set_option linter.unusedSimpArgs false
set_option linter.unusedVariables false
theorem keep_take : ∀ (F : List Edg), (F.take (firstDel F)).filter keepE = F.take (firstDel F)
  | [] => rfl
  | x :: F => by
    by_cases e : keepE x = true
    · rw [firstDel, if_pos e, List.take_succ_cons, List.filter_cons_of_pos e, keep_take F]
    · rw [firstDel, if_neg e]; rfl
theorem take_filter_yes {F : List Edg} {k : Nat} (h : k < F.length) (e : keepE F[k] = true) : (F.take (k + 1)).filter keepE = (F.take k).filter keepE ++ [F[k]] := by
  rw [List.take_add_one, List.getElem?_eq_getElem h, Option.toList_some, List.filter_append, List.filter_cons_of_pos e]
  rfl
theorem take_filter_no {F : List Edg} {k : Nat} (h : k < F.length) (e : keepE F[k] = false) : (F.take (k + 1)).filter keepE = (F.take k).filter keepE := by
  rw [List.take_add_one, List.getElem?_eq_getElem h, Option.toList_some, List.filter_append, List.filter_cons_of_neg (by rw [e]; exact Bool.false_ne_true)]
  simp
structure DelInv (F G : List Edg) (k j : Nat) : Prop where
  len : G.length = F.length
  lt : j < k
  take : G.take j = (F.take k).filter keepE
  drop : G.drop k = F.drop k
theorem DelInv.start {F : List Edg} (h : firstDel F < F.length) : DelInv F F (firstDel F + 1) (firstDel F) :=
  ⟨rfl, Nat.lt_succ_self _, by rw [take_filter_no h (firstDel_at F h), keep_take], rfl⟩
theorem DelInv.at {F G : List Edg} {k j : Nat} (h : DelInv F G k j) (hk : k < F.length) : G[k]'(by rw [h.len]; exact hk) = F[k] := by
  have h1 : (G.drop k)[0]? = (F.drop k)[0]? := by rw [h.drop]
  rw [List.getElem?_drop, List.getElem?_drop, Nat.add_zero, List.getElem?_eq_getElem (by rw [h.len]; exact hk), List.getElem?_eq_getElem hk] at h1
  exact Option.some.inj h1
theorem DelInv.no {F G : List Edg} {k j : Nat} (h : DelInv F G k j) (hk : k < F.length) (e : keepE F[k] = false) : DelInv F G (k + 1) j :=
  ⟨h.len, Nat.lt_succ_of_lt h.lt, by rw [take_filter_no hk e, h.take], by rw [← List.drop_drop, h.drop, List.drop_drop]⟩
theorem DelInv.yes {F G : List Edg} {k j : Nat} (h : DelInv F G k j) (hk : k < F.length) (e : keepE F[k] = true) : DelInv F (G.set j F[k]) (k + 1) (j + 1) := by
  have hj : j < G.length := by have := h.lt; rw [h.len]; omega
  refine ⟨by rw [List.length_set, h.len], Nat.succ_lt_succ h.lt, ?_, ?_⟩
  · rw [take_filter_yes hk e, ← h.take, List.take_add_one, List.getElem?_set_self hj, Option.toList_some, List.take_set_of_le (Nat.le_refl _)]
  · rw [List.drop_set_of_lt (by have := h.lt; omega), ← List.drop_drop, h.drop, List.drop_drop]
theorem DelInv.done {F G : List Edg} {j : Nat} (h : DelInv F G F.length j) : G.take j = F.filter keepE := by rw [h.take, List.take_length]
theorem filter_all {F : List Edg} (h : ¬ firstDel F < F.length) : F.filter keepE = F := by
  have h2 : firstDel F = F.length := by have := firstDel_le F; omega
  have := keep_take F
  rw [h2, List.take_length] at this
  exact this
def DelPost (W : World) (l : List Thing) (F : List Edg) (g c : Nat) (e : Ending) (w' : World) : Prop :=
  ∃ c1, e = .returned (.slice (some ⟨g, 0, none⟩) (F.filter keepE).length c) ∧ c1.toList.take ((F.filter keepE).length * 3) = edgL (F.filter keepE) ∧ Heap W (Cel g c1 64 :: l) w'
structure DelLoop (W : World) (l : List Thing) (F : List Edg) (r : List Value) (g n : Nat) (vj vk : Value) (wr : World) : Prop where
  out : ∃ (k j : Nat) (G : List Edg), k ≤ n ∧ vj = .int .i64 (j : Int) ∧ vk = .int .i64 (k : Int) ∧ DelInv F G k j ∧ Heap W (Cel g (ec G r) 64 :: l) wr
section
variable {W w : World} {l : List Thing}
set_option maxRecDepth 100000
set_option maxHeartbeats 2000000
theorem delete_H (g n c : Nat) (F : List Edg) (r : List Value) (hl : F.length = n) (hn : n ≤ 1000000) (hnc : n ≤ c) (hF : ∀ x ∈ F, EdgOk x) (H : Heap W (Cel g (ec F r) 64 :: l) w) :
    Calls Try.prog 54 #[.slice (some ⟨g, 0, none⟩) n c, .func (.func 56) #[] #[]] w (DelPost W l F g c) := by
  have I := index_E (W := W) (l := Cel g (ec F r) 64 :: l) g n c F r hl hn hF List.mem_cons_self
  by_cases hd : firstDel F < F.length
  · rw [delAt_yes hd] at I
    have hs := DelInv.start hd
    have hj0 : firstDel F < n := by rw [← hl]; exact hd
    have HL := Lib.hid hl
    have HF := Lib.hid hF
    clear hl hF hd
    have hne : ¬ ((firstDel F : Int) = -1) := by omega
    have hne2 : ((firstDel F : Int) == -1) = false := by simp
    have hne3 : decide ((firstDel F : Int) = -1) = false := by simp
    go_enter Try.func54, Try.ntmps54
    go_wp2_with (first | go_skip | ((with_reducible refine AnsH.call (by assumption) H ?_); clear H; intro _ H))
    have H0 := H
    clear H
    go_loopw [5, 6] (fun vj vk wr => DelLoop W l F r g n vj vk wr) (fun _ vk _ => n - (intOf vk).toNat)
    case atStart => exact ⟨_, _, F, by omega, rfl, by go_num, hs, H0⟩
    case round =>
      obtain ⟨k, j, G, hk, rfl, rfl, hI, H'⟩ := hrel.out
      clear H0 hrel hs I hne hne2 hne3
      have H := H'
      clear H'
      have hjk := hI.lt
      by_cases hlt : k < n
      · have hkF : k < F.length := by rw [HL.out]; exact hlt
        have hkG : k < G.length := by rw [hI.len]; exact hkF
        have hjG : j < G.length := by omega
        have hat := hI.at hkF
        have hpart := ec_part (r := r) hkG
        rw [hat] at hpart
        have hok := HF.out F[k] (List.getElem_mem hkF)
        have hsz : k * 3 + 3 ≤ (ec G r).size := by rw [ec_sz]; omega
        have hsj : j * 3 + 3 ≤ (ec G r).size := by rw [ec_sz]; omega
        cases e : keepE F[k]
        · have HI := Lib.hid (hI.no hkF e)
          have D := fun px => del_H (W := W) (l := Cel px (edg F[k].f F[k].t F[k].c) 64 :: Cel g (ec G r) 64 :: l) F[k] hok
          rw [e] at D
          clear hI hat hok e
          generalize F[k] = x at *
          go_wp2_with (first
            | go_skip
            | ((with_reducible show wpList _ _ _ (_ :: _) _ _); (with_reducible apply wpl_loadRH row_edg); (· rfl); (· rfl); (· exact H); (· exact List.mem_cons_self); (· exact hsz); (· exact hpart); (simp only [Act.put, List.setIfInBounds_toArray, List.set_cons_zero, List.set_cons_succ]))
            | ((with_reducible show wpList _ _ _ (_ :: _) _ _); (with_reducible apply wpl_allocRH row_edg); (· rfl); (· exact H); (clear H; intro px _ H); (simp only [Act.put, List.setIfInBounds_toArray, List.set_cons_zero, List.set_cons_succ]))
            | ((with_reducible show wpList _ _ _ (_ :: _) _ _); (with_reducible apply wpl_storeRH row_edg); (· rfl); (· rfl); (· rfl); (· with_reducible exact edg_cells ..); (· exact H); (· (repeat (first | (with_reducible exact List.mem_cons_self) | with_reducible apply List.mem_cons_of_mem))); (· (simp only [edg_sz, Nat.reduceAdd, Nat.reduceLeDiff, Nat.le_refl]; done)); (· with_reducible exact edg_splice ..); (· (repeat (first | (with_reducible exact Repl.here) | with_reducible apply Repl.there))); (clear H; intro _ H); (simp only [Act.put, List.setIfInBounds_toArray, List.set_cons_zero, List.set_cons_succ]))
            | ((with_reducible show wpList _ _ _ (_ :: _) _ _); (with_reducible apply wpl_loadRH row_edg); (· rfl); (· rfl); (· exact H); (· (repeat (first | (with_reducible exact List.mem_cons_self) | with_reducible apply List.mem_cons_of_mem))); (· (simp only [edg_sz, Nat.reduceAdd, Nat.reduceLeDiff, Nat.le_refl]; done)); (· with_reducible exact edg_all ..); (simp only [Act.put, List.setIfInBounds_toArray, List.set_cons_zero, List.set_cons_succ]))
            | ((with_reducible refine AnsH.call (D _) H ?_); clear H; intro _ H))
          refine ⟨⟨k + 1, j, G, by omega, rfl, by go_num, HI.out, H.tail⟩, ?measure⟩
          case measure => simp [intOf]; omega
        · have HI := Lib.hid (hI.yes hkF e)
          have D := fun px => del_H (W := W) (l := Cel px (edg F[k].f F[k].t F[k].c) 64 :: Cel g (ec G r) 64 :: l) F[k] hok
          rw [e] at D
          clear hI hat hok e
          generalize F[k] = x at *
          have hput := ec_put (r := r) x hjG
          go_wp2_with (first
            | go_skip
            | ((with_reducible show wpList _ _ _ (_ :: _) _ _); (with_reducible apply wpl_loadRH row_edg); (· rfl); (· rfl); (· exact H); (· exact List.mem_cons_self); (· exact hsz); (· exact hpart); (simp only [Act.put, List.setIfInBounds_toArray, List.set_cons_zero, List.set_cons_succ]))
            | ((with_reducible show wpList _ _ _ (_ :: _) _ _); (with_reducible apply wpl_allocRH row_edg); (· rfl); (· exact H); (clear H; intro px _ H); (simp only [Act.put, List.setIfInBounds_toArray, List.set_cons_zero, List.set_cons_succ]))
            | ((with_reducible show wpList _ _ _ (_ :: _) _ _); (with_reducible apply wpl_storeRH row_edg); (· rfl); (· rfl); (· rfl); (· exact edg_cells ..); (· exact H); (· exact List.mem_cons_of_mem _ List.mem_cons_self); (· exact hsj); (· exact hput); (· exact Repl.there Repl.here); (clear H; intro _ H); (simp only [Act.put, List.setIfInBounds_toArray, List.set_cons_zero, List.set_cons_succ]))
            | ((with_reducible show wpList _ _ _ (_ :: _) _ _); (with_reducible apply wpl_storeRH row_edg); (· rfl); (· rfl); (· rfl); (· with_reducible exact edg_cells ..); (· exact H); (· (repeat (first | (with_reducible exact List.mem_cons_self) | with_reducible apply List.mem_cons_of_mem))); (· (simp only [edg_sz, Nat.reduceAdd, Nat.reduceLeDiff, Nat.le_refl]; done)); (· with_reducible exact edg_splice ..); (· (repeat (first | (with_reducible exact Repl.here) | with_reducible apply Repl.there))); (clear H; intro _ H); (simp only [Act.put, List.setIfInBounds_toArray, List.set_cons_zero, List.set_cons_succ]))
            | ((with_reducible show wpList _ _ _ (_ :: _) _ _); (with_reducible apply wpl_loadRH row_edg); (· rfl); (· rfl); (· exact H); (· (repeat (first | (with_reducible exact List.mem_cons_self) | with_reducible apply List.mem_cons_of_mem))); (· (simp only [edg_sz, Nat.reduceAdd, Nat.reduceLeDiff, Nat.le_refl]; done)); (· with_reducible exact edg_all ..); (simp only [Act.put, List.setIfInBounds_toArray, List.set_cons_zero, List.set_cons_succ]))
            | ((with_reducible refine AnsH.call (D _) H ?_); clear H; intro _ H))
          refine ⟨⟨k + 1, j + 1, _, by omega, by go_num, by go_num, HI.out, H.tail⟩, ?measure⟩
          case measure => simp [intOf]; omega
      · obtain rfl : k = n := by omega
        have hD := (show G.take j = F.filter keepE by have h := hI; rw [← HL.out] at h; exact h.done)
        have hGl : G.length = k := by rw [hI.len]; exact HL.out
        have hfit : j * 3 + (k - j) * 3 ≤ (ec G r).size := by rw [ec_sz, hGl]; omega
        have hz1 : ∀ u ∈ (Value.agg #[.int .u8 0, .int .u8 0, .int .i8 0]).cells, u.oneCell' = true := by
          intro u hu
          simp [Value.cells] at hu
          rcases hu with rfl | rfl | rfl <;> rfl
        have HDD := Lib.hid hD
        have HGL := Lib.hid hGl
        clear hI hD hGl
        go_wp2_with (first
          | go_skip
          | ((with_reducible show wpList _ _ _ (_ :: _) _ _); (with_reducible apply wpl_clearC slE); (· exact hz1); (· rfl); (· rfl); (· rfl); (· exact H); (· exact hfit); (clear H; intro c1 _ hc1 hc2 H); (simp only [Act.put, List.setIfInBounds_toArray, List.set_cons_zero, List.set_cons_succ])))
        go_ret
        have hlen : (F.filter keepE).length = j := by rw [← HDD.out, List.length_take, HGL.out]; omega
        refine ⟨c1, ?_, ?_, H⟩
        · rw [hlen]; rfl
        · rw [hlen, hc2, ← HDD.out, ← edgL_take G j (by rw [HGL.out]; omega)]
          unfold ec
          rw [List.toList_toArray, List.take_append_of_le_length (by rw [edgL_len, HGL.out]; omega)]
  · rw [delAt_no hd] at I
    have HD := Lib.hid (filter_all hd)
    clear hd
    go_enter Try.func54, Try.ntmps54
    go_wp2_with (first | go_skip | ((with_reducible refine AnsH.call (by assumption) H ?_); clear H; intro _ H))
    go_ret
    refine ⟨ec F r, ?_, ?_, H⟩
    · rw [HD.out, hl]; rfl
    · rw [HD.out]
      unfold ec
      rw [List.toList_toArray, ← edgL_len]
      exact List.take_left
end
end Go.Proofs.Ytglehneaphigdaa

/- slices.Grow, slices.Concat of parties. -/
namespace Go.Proofs.Ytglehneaphigdaa
open Go.RowKit
set_option linter.unusedSimpArgs false
set_option linter.unusedVariables false
theorem wpl_growNil {ops : Array Oper} {rest : List Oper} {o : Oper} {a : Act} {w W : World} {l : List Thing} {Q : Exit → Act → World → Prop} {t tn e size bytes : Nat} {z : Value} (T : SlTy Try.prog t e size bytes z) {kn : IntKind} (htn : Try.prog.underlying tn = some (.int kn)) (hgd : o.guard = none) {s x : Operand}
    (ho : o.op = .call { callee := .builtin .append, args := #[s, x], argTypes := #[t, tn] }) {k : IntKind} {n : Nat} (hs : a.eval s = .slice none 0 0) (hx : a.eval x = .int k (n : Int)) (h0 : 0 < n) (hn : n ≤ 65536) (hb : n * bytes ≤ 281474976710656)
    (H : Heap W l w) (h : ∀ g m cs w', n ≤ m → m ≤ maxLen → cs.size = m * size → Heap W (Cel g cs e :: l) w' → wpList Try.prog ops Q rest (a.put o.dst (.slice (some ⟨g, 0, none⟩) n m)) w') : wpList Try.prog ops Q (o :: rest) a w := by
  obtain ⟨i, hi, hz, hsi, hbi⟩ := T.inf
  subst hsi hbi
  have hr := Lib.run_append_nil_zeros (P := Try.prog) w t tn o.type e i z k kn T.und htn hi hz n h0 T.pos (by omega) hb
  refine Lib.wpList_append_run w hgd s x t tn ho _ _ hs hx _ _ hr ?_
  have hge := grownCap_ge w n 0 e
  have hle := grownCap_le_maxLen w n 0 e (by unfold maxLen; omega)
  refine h _ _ _ _ hge hle ?_ (H.drew.alloc _ _)
  rw [Array.size_append, size_zeroCells, size_zeroCells, T.zc, ← Nat.add_mul, Nat.add_sub_cancel' hge]
section
variable {W w : World} {l : List Thing}
set_option maxRecDepth 100000
set_option maxHeartbeats 2000000
theorem grow_H (n : Nat) (h0 : 1 ≤ n) (hn : n ≤ 65536) (H : Heap W l w) :
    Calls Try.prog 70 #[.slice none 0 0, .int .i64 (n : Int)] w fun e w' => ∃ v, e = .returned v ∧ Heap W (RowT 33 1 v 0 [] :: l) w' := by
  go_enter Try.func70, Try.ntmps70
  have ht : Try.prog.underlying 3 = some (.int .i64) := Try.underlying3
  go_wp2_with (first
    | go_skip
    | ((with_reducible show wpList _ _ _ (_ :: _) _ _); (with_reducible apply wpl_growNil slP); (· exact ht); (· rfl); (· rfl); (· rfl); (· rfl); (· exact h0); (· exact hn); (· omega); (· exact H); (clear H; intro g m cs _ hm1 hm2 hcs H); (simp only [Act.put, List.setIfInBounds_toArray, List.set_cons_zero, List.set_cons_succ])))
  go_ret
  exact ⟨_, rfl, H.celRow (n := 0) (m := m) hcs (Nat.zero_le _) hm2⟩
theorem cell_parties : CellTy 67 := ⟨⟨_, Try.underlying67, rfl⟩, by kernel_rfl⟩
theorem pv_ones_all (L : List Nat) : OneCells (L.map pv) := by
  intro u hu
  obtain ⟨x, _, rfl⟩ := List.mem_map.1 hu
  rfl
def pick2 {α : Type} (k : Nat) (x y z : α) : α := if k = 0 then x else if k = 1 then y else z
structure CatLoop (W : World) (l : List Thing) (A B : List Nat) (vs vi : Value) (wr : World) : Prop where
  out : ∃ k : Nat, k ≤ 2 ∧ vi = .int .i64 (k : Int) ∧ Heap W (RowT 33 1 vs (pick2 k 0 A.length (A.length + B.length)) ((pick2 k [] A (A ++ B)).map pv) :: l) wr
structure LenLoop (W : World) (l : List Thing) (A B : List Nat) (vs vi : Value) (wr : World) : Prop where
  out : ∃ k : Nat, k ≤ 2 ∧ vi = .int .i64 (k : Int) ∧ vs = .int .i64 ((pick2 k 0 A.length (A.length + B.length) : Nat) : Int) ∧ Heap W l wr
theorem concat_H (q g oa ca ob cb : Nat) (A B : List Nat) (h0 : 1 ≤ A.length + B.length) (hA : A.length ≤ 1000) (hB : B.length ≤ 1000) (RA : ∀ w', Heap W l w' → Rd w' (some ⟨g, oa, none⟩) (A.map pv)) (RB : ∀ w', Heap W l w' → Rd w' (some ⟨g, ob, none⟩) (B.map pv))
    (m : Cel q #[.slice (some ⟨g, oa, none⟩) A.length ca, .slice (some ⟨g, ob, none⟩) B.length cb] 67 ∈ l) (H : Heap W l w) :
    Calls Try.prog 62 #[.slice (some ⟨q, 0, none⟩) 2 2] w fun e w' => ∃ v, e = .returned v ∧ Heap W (RowT 33 1 v (A.length + B.length) ((A ++ B).map pv) :: l) w' := by
  have HRA := Lib.hid RA
  have HRB := Lib.hid RB
  clear RA RB
  have hG := fun (W0 : World) (H : Heap W l W0) => grow_H (W := W) (l := l) (w := W0) (A.length + B.length) h0 (by omega) H
  rw [Int.natCast_add] at hG
  go_enter Try.func62, Try.ntmps62
  go_wp2_with (go_skip)
  have H0 := H
  clear H
  go_loopw [3, 11] (fun vs vi wr => LenLoop W l A B vs vi wr) (fun _ vi _ => 2 - (intOf vi).toNat)
  case atStart => exact ⟨0, by omega, rfl, rfl, H0⟩
  case round =>
    obtain ⟨k, hk, rfl, rfl, H'⟩ := hrel.out
    clear H0 hrel
    have H := H'
    clear H'
    by_cases hk0 : k = 0
    · subst hk0
      simp only [pick2, if_true]
      go_wp2_with (first
        | go_skip
        | ((with_reducible show wpList _ _ _ (_ :: _) _ _); (with_reducible apply wpl_loadCH); (· exact cell_parties); (· rfl); (· rfl); (· exact H); (· exact m); (· rfl); (simp only [Act.put, List.setIfInBounds_toArray, List.set_cons_zero, List.set_cons_succ])))
      refine ⟨⟨1, by omega, rfl, ?_, H⟩, ?measure⟩
      · simp [pick2]
      case measure => simp [intOf]
    · by_cases hk1 : k = 1
      · subst hk1
        have e1 : pick2 1 0 A.length (A.length + B.length) = A.length := rfl
        rw [e1]
        go_wp2_with (first
          | go_skip
          | ((with_reducible show wpList _ _ _ (_ :: _) _ _); (with_reducible apply wpl_loadCH); (· exact cell_parties); (· rfl); (· rfl); (· exact H); (· exact m); (· rfl); (simp only [Act.put, List.setIfInBounds_toArray, List.set_cons_zero, List.set_cons_succ])))
        refine ⟨⟨2, by omega, rfl, ?_, H⟩, ?measure2⟩
        · simp [pick2]
        case measure2 => simp [intOf]
      · obtain rfl : k = 2 := by omega
        have e2 : pick2 2 0 A.length (A.length + B.length) = A.length + B.length := rfl
        rw [e2]
        go_wp2_with (first
          | go_skip
          | ((with_reducible refine (hG _ H).mono ?_); clear H; rintro _ _ ⟨v0, rfl, H⟩))
        have H0 := H
        clear H hG
        go_loopw [6, 27] (fun vs vi wr => CatLoop W l A B vs vi wr) (fun _ vi _ => 2 - (intOf vi).toNat)
        case atStart => exact ⟨0, by omega, rfl, H0⟩
        case round =>
          obtain ⟨k, hk, rfl, H'⟩ := hrel.out
          clear H0 hrel
          have H := H'
          clear H'
          have hA0 : 0 + A.length ≤ maxLen := by unfold maxLen; omega
          have hA1 : (0 + A.length) * 1 ≤ 140737488355328 := by omega
          have hB0 : A.length + B.length ≤ maxLen := by unfold maxLen; omega
          have hB1 : (A.length + B.length) * 1 ≤ 140737488355328 := by omega
          have hA2 : (A.map pv).length = A.length * 1 := by simp
          have hB2 : (B.map pv).length = B.length * 1 := by simp
          by_cases hk0 : k = 0
          · subst hk0
            go_wp2_with (first
              | go_skip
              | ((with_reducible show wpList _ _ _ (_ :: _) _ _); (with_reducible apply wpl_loadCH); (· exact cell_parties); (· rfl); (· rfl); (· exact H); (· exact List.mem_cons_of_mem _ m); (· rfl); (simp only [Act.put, List.setIfInBounds_toArray, List.set_cons_zero, List.set_cons_succ]))
              | ((with_reducible show wpList _ _ _ (_ :: _) _ _); (with_reducible apply wpl_appendH slP); (· rfl); (· rfl); (· rfl); (· rfl); (· exact H); (· exact HRA.out _ H.tail); (· exact hA2); (· exact pv_ones_all A); (· exact hA0); (· exact hA1); (clear H; intro v2 _ H); (simp only [Act.put, List.setIfInBounds_toArray, List.set_cons_zero, List.set_cons_succ])))
            refine ⟨⟨1, by omega, rfl, ?_⟩, ?measure⟩
            · have e : pick2 0 0 A.length (A.length + B.length) + A.length = A.length := by simp [pick2]
              rw [e] at H
              exact H
            case measure => simp [intOf]
          · by_cases hk1 : k = 1
            · subst hk1
              go_wp2_with (first
                | go_skip
                | ((with_reducible show wpList _ _ _ (_ :: _) _ _); (with_reducible apply wpl_loadCH); (· exact cell_parties); (· rfl); (· rfl); (· exact H); (· exact List.mem_cons_of_mem _ m); (· rfl); (simp only [Act.put, List.setIfInBounds_toArray, List.set_cons_zero, List.set_cons_succ]))
                | ((with_reducible show wpList _ _ _ (_ :: _) _ _); (with_reducible apply wpl_appendH slP); (· rfl); (· rfl); (· rfl); (· rfl); (· exact H); (· exact HRB.out _ H.tail); (· exact hB2); (· exact pv_ones_all B); (· exact hB0); (· exact hB1); (clear H; intro v2 _ H); (simp only [Act.put, List.setIfInBounds_toArray, List.set_cons_zero, List.set_cons_succ])))
              refine ⟨⟨2, by omega, rfl, ?_⟩, ?measure2⟩
              · have e : (pick2 2 [] A (A ++ B)).map pv = (pick2 1 [] A (A ++ B)).map pv ++ B.map pv := by simp [pick2]
                rw [e]
                exact H
              case measure2 => simp [intOf]
            · obtain rfl : k = 2 := by omega
              go_wp2_with (go_skip)
              go_ret
              exact ⟨_, rfl, H⟩
end
end Go.Proofs.Ytglehneaphigdaa
