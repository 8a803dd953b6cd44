/- paths.Round's list: slices.Clone, IndexFunc, DeleteFunc of edges. -/
import Derived.Test.YtglehneaphigdaaOnce
import Derived.Test.YtglehneaphigdaaShort
import Derived.Test.YtglehneaphigdaaHeapClear
import Derived.Lib.SliceRun
namespace Go.Proofs.Ytglehneaphigdaa
open Go.RowKit
set_option linter.unusedSimpArgs false
set_option linter.unusedVariables false
theorem Heap.celRow {W w : World} {l : List Thing} {g e size n m : Nat} {c : Array Value} (H : Heap W (Cel g c e :: l) w) (hc : c.size = m * size) (hn : n ≤ m) (hm : m ≤ maxLen) : Heap W (RowT e size (.slice (some ⟨g, 0, none⟩) n m) n (c.toList.take (n * size)) :: l) w := by
  have h2 : n * size ≤ m * size := Nat.mul_le_mul_right _ hn
  exact H.head (World.grownBy.refl _ _) ⟨by simp; omega, .inr ⟨g, m, c, rfl, Nat.zero_le _, H.blk List.mem_cons_self, hn, hm, hc, rfl⟩⟩ (.inl rfl)
/-- A row that is not empty, as its block. -/
theorem Heap.rowCel {W w : World} {l : List Thing} {e size n : Nat} {v : Value} {xs : List Value} (H : Heap W (RowT e size v n xs :: l) w) (hn : 0 < n) :
    ∃ g m c, v = .slice (some ⟨g, 0, none⟩) n m ∧ n ≤ m ∧ m ≤ maxLen ∧ c.size = m * size ∧ c.toList.take (n * size) = xs ∧ Heap W (Cel g c e :: l) w := by
  obtain ⟨h1, ⟨_, h2⟩ | ⟨g, m, c, hv, _, hg, hnm, hm, hs, ht⟩⟩ := H.ok _ List.mem_cons_self
  · omega
  · refine ⟨g, m, c, hv, hnm, hm, hs, ht, H.head (World.grownBy.refl _ _) hg (.inl ?_)⟩
    subst hv
    rfl
/-- A block that begins with these edges. -/
def ec (F : List Edg) (r : List Value) : Array Value := (edgL F ++ r).toArray
theorem ec_sz (F : List Edg) (r : List Value) : (ec F r).size = F.length * 3 + r.length := by simp [ec, edgL_len]
theorem ec_of {c : Array Value} {F : List Edg} {n : Nat} (h : c.toList.take n = edgL F) : ∃ r, c = ec F r := by
  refine ⟨c.toList.drop n, ?_⟩
  unfold ec
  rw [← h, List.take_append_drop]
theorem edgL_take (F : List Edg) (i : Nat) (h : i ≤ F.length) : (edgL F).take (i * 3) = edgL (F.take i) := by
  have e : edgL F = edgL (F.take i) ++ edgL (F.drop i) := by rw [← edgL_app, List.take_append_drop]
  have hl : (edgL (F.take i)).length = i * 3 := by rw [edgL_len, List.length_take, Nat.min_eq_left h]
  rw [e, ← hl]
  exact List.take_left
theorem edgL_drop (F : List Edg) (i : Nat) (h : i ≤ F.length) : (edgL F).drop (i * 3) = edgL (F.drop i) := by
  have e : edgL F = edgL (F.take i) ++ edgL (F.drop i) := by rw [← edgL_app, List.take_append_drop]
  have hl : (edgL (F.take i)).length = i * 3 := by rw [edgL_len, List.length_take, Nat.min_eq_left h]
  rw [e, ← hl]
  exact List.drop_left
theorem edgL_set (F : List Edg) (i : Nat) (x : Edg) (h : i < F.length) : edgL (F.set i x) = (edgL F).take (i * 3) ++ (edgV x ++ (edgL F).drop (i * 3 + 3)) := by
  rw [List.set_eq_take_append_cons_drop, if_pos h, edgL_app, edgL_take F i (by omega), show i * 3 + 3 = (i + 1) * 3 by omega, edgL_drop F (i + 1) (by omega)]
  rfl
theorem ec_part {F : List Edg} {r : List Value} {k : Nat} (h : k < F.length) : (ec F r).extract (k * 3) (k * 3 + 3) = edg F[k].f F[k].t F[k].c := by
  unfold ec
  have h1 := edgL_at F k h
  have h2 : k * 3 + 3 ≤ (edgL F).length := by rw [edgL_len]; omega
  apply Array.ext'
  rw [List.extract_toArray, List.toList_toArray, List.extract_eq_take_drop]
  rw [show k * 3 + 3 - k * 3 = 3 by omega, List.drop_append_of_le_length (by omega), List.take_append_of_le_length (by simp; omega), h1]
  rfl
theorem ec_put {F : List Edg} {r : List Value} {k : Nat} (x : Edg) (h : k < F.length) : splice (ec F r) (k * 3) (edg x.f x.t x.c) = ec (F.set k x) r := by
  unfold ec splice
  rw [edgL_set F k x h]
  have h2 : k * 3 + 3 ≤ (edgL F).length := by rw [edgL_len]; omega
  have h3 : (edg x.f x.t x.c).size = 3 := rfl
  have h4 : (edg x.f x.t x.c).toList = edgV x := rfl
  rw [h3, h4, List.toList_toArray, List.take_append_of_le_length (by omega), List.drop_append_of_le_length (by omega)]
  simp only [List.append_assoc]
def keepE (x : Edg) : Bool := mayP x.f && mayP x.t
theorem slE : SlTy Try.prog 61 64 3 3 (.agg #[.int .u8 0, .int .u8 0, .int .i8 0]) := slTy_mk Try.underlying61 (by kernel_rfl) rfl (by decide)
theorem edgL_ones (F : List Edg) : OneCells (edgL F) := by
  intro u hu
  obtain ⟨x, _, hx⟩ := List.mem_flatMap.1 hu
  simp [edgV] at hx
  rcases hx with rfl | rfl | rfl <;> rfl
theorem wpl_append00 {ops : Array Oper} {rest : List Oper} {o : Oper} {a : Act} {w : World} {Q : Exit → Act → World → Prop} {t e size bytes : Nat} {z : Value} (T : SlTy Try.prog t e size bytes z) (hgd : o.guard = none) {s x : Operand}
    (ho : o.op = .call { callee := .builtin .append, args := #[s, x], argTypes := #[t, t] }) {q : Nat} {b : Addr} {c : Nat} (hs : a.eval s = .slice (some ⟨q, 0, none⟩) 0 0) (hx : a.eval x = .slice (some b) 0 c)
    (h : wpList Try.prog ops Q rest (a.put o.dst (.slice (some ⟨q, 0, none⟩) 0 0)) w) : wpList Try.prog ops Q (o :: rest) a w := by
  obtain ⟨i, hi, hz, hsi, hbi⟩ := T.inf
  have hr : (Builtin.append_ #[t, t] o.type #[.slice (some ⟨q, 0, none⟩) 0 0, .slice (some b) 0 c]).run Try.prog w = .ok (.slice (some ⟨q, 0, none⟩) 0 0) w := by
    simp [Builtin.append_, run_underlying T.und, sizeOf, typeInfo, hi, Builtin.lenOf, Builtin.firstCells, loadCells, loadCellsFrom, storeCells]
  refine wpList_plain hgd fun K hK => ?_
  unfold Oper.wp execOp
  simp only [ho, resolve, invoke, builtin, Sem.run_bind, Sem.run_pure, Result.andThen_ok, List.map_toArray, List.map_cons, List.map_nil, hs, hx, hr]
  exact hK _ _ h
/-- What Clone answers. -/
def ClonePost (W : World) (l : List Thing) (F : List Edg) (e : Ending) (w' : World) : Prop :=
  ∃ a c, e = .returned (.slice a F.length c) ∧ F.length ≤ c ∧ c ≤ maxLen ∧ ((F = [] ∧ Heap W l w') ∨ ∃ g r, a = some ⟨g, 0, none⟩ ∧ (ec F r).size = c * 3 ∧ Heap W (Cel g (ec F r) 64 :: l) w')
section
variable {W w : World} {l : List Thing}
set_option maxRecDepth 100000
set_option maxHeartbeats 2000000
theorem del_H (x : Edg) (hx : EdgOk x) : AnsH W l 56 #[.agg (edg x.f x.t x.c)] (.bool (!keepE x)) := by
  intro w H
  obtain ⟨a, b, n⟩ := x
  obtain ⟨h1, h2, h3, h4⟩ := hx
  simp only at h1 h2 h3 h4
  have m1 := may6 a h1
  have m2 := may6 b h2
  unfold keepE
  cases e1 : mayP a
  · rw [e1] at m1
    clear e1
    go_enter Try.func56, Try.ntmps56
    go_wp2_with (first
      | go_skip
      | ((with_reducible show wpList _ _ _ (_ :: _) _ _); (with_reducible apply wpl_boxRH); (· rfl); (· rfl); (· exact H); (clear H; intro p _ H); (simp only [Act.put, List.setIfInBounds_toArray, List.set_cons_zero, List.set_cons_succ]))
      | ((with_reducible show wpList _ _ _ (_ :: _) _ _); (with_reducible apply wpl_loadCH); (· exact cell_party); (· rfl); (· rfl); (· exact H); (· (repeat (first | (with_reducible exact List.mem_cons_self) | with_reducible apply List.mem_cons_of_mem))); (· (with_reducible first | exact edg_g0 .. | exact edg_g1 .. | exact edg_g2 ..)); (simp only [Act.put, List.setIfInBounds_toArray, List.set_cons_zero, List.set_cons_succ]))
      | ((with_reducible refine Ans.callH (by assumption) H ?_); clear H; intro _ H))
    go_ret
    exact ⟨rfl, H.tail⟩
  · rw [e1] at m1
    clear e1
    cases e2 : mayP b
    · rw [e2] at m2
      clear e2
      go_enter Try.func56, Try.ntmps56
      go_wp2_with (first
        | go_skip
        | ((with_reducible show wpList _ _ _ (_ :: _) _ _); (with_reducible apply wpl_boxRH); (· rfl); (· rfl); (· exact H); (clear H; intro p _ H); (simp only [Act.put, List.setIfInBounds_toArray, List.set_cons_zero, List.set_cons_succ]))
        | ((with_reducible show wpList _ _ _ (_ :: _) _ _); (with_reducible apply wpl_loadCH); (· exact cell_party); (· rfl); (· rfl); (· exact H); (· (repeat (first | (with_reducible exact List.mem_cons_self) | with_reducible apply List.mem_cons_of_mem))); (· (with_reducible first | exact edg_g0 .. | exact edg_g1 .. | exact edg_g2 ..)); (simp only [Act.put, List.setIfInBounds_toArray, List.set_cons_zero, List.set_cons_succ]))
        | ((with_reducible refine Ans.callH (by assumption) H ?_); clear H; intro _ H))
      go_ret
      exact ⟨rfl, H.tail⟩
    · rw [e2] at m2
      clear e2
      go_enter Try.func56, Try.ntmps56
      go_wp2_with (first
        | go_skip
        | ((with_reducible show wpList _ _ _ (_ :: _) _ _); (with_reducible apply wpl_boxRH); (· rfl); (· rfl); (· exact H); (clear H; intro p _ H); (simp only [Act.put, List.setIfInBounds_toArray, List.set_cons_zero, List.set_cons_succ]))
        | ((with_reducible show wpList _ _ _ (_ :: _) _ _); (with_reducible apply wpl_loadCH); (· exact cell_party); (· rfl); (· rfl); (· exact H); (· (repeat (first | (with_reducible exact List.mem_cons_self) | with_reducible apply List.mem_cons_of_mem))); (· (with_reducible first | exact edg_g0 .. | exact edg_g1 .. | exact edg_g2 ..)); (simp only [Act.put, List.setIfInBounds_toArray, List.set_cons_zero, List.set_cons_succ]))
        | ((with_reducible refine Ans.callH (by assumption) H ?_); clear H; intro _ H))
      go_ret
      exact ⟨rfl, H.tail⟩
theorem clone_H (ea : Option Addr) (en ec0 : Nat) (F : List Edg) (hl : F.length = en) (hn : en ≤ 1000000) (R : ∀ w', Heap W l w' → Rd w' ea (edgL F)) (H : Heap W l w) :
    Calls Try.prog 55 #[.slice ea en ec0] w (ClonePost W l F) := by
  have HL := Lib.hid hl
  have HR := Lib.hid R
  clear hl R
  cases ea with
  | none =>
    have hz : en = 0 := by
      apply Classical.byContradiction
      intro hne
      obtain ⟨b, o, he, _⟩ := HR.out w H 0 (by rw [edgL_len, HL.out]; omega)
      cases he
    subst hz
    have hF : F = [] := List.eq_nil_of_length_eq_zero HL.out
    have hnil : ∀ V, (binOp .eql 61 (.slice none 0 ec0) (.slice none 0 0)).run Try.prog V = .ok (.bool true) V := fun V => Lib.run_eql_slice_nil V _ _ none 0 ec0 0 0 Try.underlying61
    go_enter Try.func55, Try.ntmps55
    go_wp2_with (go_skip)
    go_ret
    subst hF
    exact ⟨none, 0, rfl, Nat.le_refl _, by unfold maxLen; omega, .inl ⟨rfl, H⟩⟩
  | some a0 =>
    obtain ⟨b, o, sp⟩ := a0
    have hsp : F = [] ∨ sp = none := by
      rcases Nat.eq_zero_or_pos F.length with h | h
      · exact .inl (List.eq_nil_of_length_eq_zero h)
      · obtain ⟨b', o', he, _⟩ := HR.out w H 0 (by rw [edgL_len]; omega)
        cases he
        exact .inr rfl
    have hnil : ∀ V, (binOp .eql 61 (.slice (some ⟨b, o, sp⟩) en ec0) (.slice none 0 0)).run Try.prog V = .ok (.bool false) V := fun V => Lib.run_eql_slice_nil V _ _ (some ⟨b, o, sp⟩) en ec0 0 0 Try.underlying61
    rcases Nat.eq_zero_or_pos en with h0 | h0
    · subst h0
      have hF : F = [] := List.eq_nil_of_length_eq_zero HL.out
      go_enter Try.func55, Try.ntmps55
      go_wp2_with (first
        | go_skip
        | ((with_reducible show wpList _ _ _ (_ :: _) _ _); (with_reducible apply wpl_bs0); (· rfl); (· exact slE); (· exact H); (clear H; intro pq _ H); (simp only [Act.put, List.setIfInBounds_toArray, List.set_cons_zero, List.set_cons_succ]))
        | ((with_reducible show wpList _ _ _ (_ :: _) _ _); (with_reducible apply wpl_append00 slE); (· rfl); (· rfl); (· rfl); (· rfl); (simp only [Act.put, List.setIfInBounds_toArray, List.set_cons_zero, List.set_cons_succ])))
      go_ret
      subst hF
      exact ⟨_, 0, rfl, Nat.le_refl _, by unfold maxLen; omega, .inl ⟨rfl, H.tail⟩⟩
    · obtain rfl : sp = none := by
        rcases hsp with h | h
        · subst h; have := HL.out; simp at this; omega
        · exact h
      have h1 : 0 + en ≤ maxLen := by unfold maxLen; omega
      have h2 : (0 + en) * 3 ≤ 140737488355328 := by omega
      have h3 : (edgL F).length = en * 3 := by rw [edgL_len, HL.out]
      go_enter Try.func55, Try.ntmps55
      go_wp2_with (first
        | go_skip
        | ((with_reducible show wpList _ _ _ (_ :: _) _ _); (with_reducible apply wpl_bs0); (· rfl); (· exact slE); (· exact H); (clear H; intro pq _ H); (simp only [Act.put, List.setIfInBounds_toArray, List.set_cons_zero, List.set_cons_succ]))
        | ((with_reducible show wpList _ _ _ (_ :: _) _ _); (with_reducible apply wpl_appendH slE); (· rfl); (· rfl); (· rfl); (· rfl); (· exact H.celRow (n := 0) (m := 0) rfl (Nat.le_refl _) (Nat.zero_le _)); (· exact HR.out _ H.tail); (· exact h3); (· exact edgL_ones F); (· exact h1); (· exact h2); (clear H; intro v2 _ H); (simp only [Act.put, List.setIfInBounds_toArray, List.set_cons_zero, List.set_cons_succ])))
      go_ret
      obtain ⟨g, m, c, hv, hm1, hm2, hcs, hct, Hc⟩ := H.rowCel (by omega)
      have hct2 : c.toList.take (en * 3) = edgL F := by simpa using hct
      obtain ⟨r, rfl⟩ := ec_of hct2
      refine ⟨some ⟨g, 0, none⟩, m, ?_, by rw [HL.out]; omega, hm2, .inr ⟨g, r, rfl, hcs, Hc⟩⟩
      rw [HL.out, hv, Nat.zero_add]
      rfl
/-- Where the first one is that shall go. -/
def firstDel : List Edg → Nat
  | [] => 0
  | x :: F => if keepE x then firstDel F + 1 else 0
theorem firstDel_le : ∀ F : List Edg, firstDel F ≤ F.length
  | [] => Nat.le_refl _
  | x :: F => by have := firstDel_le F; unfold firstDel; split <;> simp <;> omega
theorem firstDel_keep : ∀ (F : List Edg) (k : Nat) (h : k < F.length), k < firstDel F → keepE F[k] = true
  | [], _, h, _ => by simp at h
  | x :: F, 0, h, hk => by
    unfold firstDel at hk
    by_cases e : keepE x = true
    · exact e
    · rw [if_neg e] at hk; omega
  | x :: F, k + 1, h, hk => by
    unfold firstDel at hk
    by_cases e : keepE x = true
    · rw [if_pos e] at hk
      exact firstDel_keep F k (by simpa using h) (by omega)
    · rw [if_neg e] at hk; omega
theorem firstDel_at : ∀ (F : List Edg) (h : firstDel F < F.length), keepE F[firstDel F] = false
  | [], h => by simp at h
  | x :: F, h => by
    by_cases e : keepE x = true
    · have h2 : firstDel (x :: F) = firstDel F + 1 := by rw [firstDel, if_pos e]
      have h3 : firstDel F < F.length := by rw [h2] at h; simpa using h
      have := firstDel_at F h3
      simp only [h2, List.getElem_cons_succ]
      exact this
    · have h2 : firstDel (x :: F) = 0 := by rw [firstDel, if_neg e]
      simp only [h2, List.getElem_cons_zero]
      simpa using e
/-- Its index; -1, if there is none. -/
def delAt (F : List Edg) : Int := if firstDel F < F.length then (firstDel F : Int) else -1
theorem delAt_yes {F : List Edg} (h : firstDel F < F.length) : delAt F = (firstDel F : Int) := if_pos h
theorem delAt_no {F : List Edg} (h : ¬ firstDel F < F.length) : delAt F = -1 := if_neg h
theorem index_E (g n c : Nat) (F : List Edg) (r : List Value) (hl : F.length = n) (hn : n ≤ 1000000) (hF : ∀ x ∈ F, EdgOk x) (m : Cel g (ec F r) 64 ∈ l) :
    AnsH W l 69 #[.slice (some ⟨g, 0, none⟩) n c, .func (.func 56) #[] #[]] (.int .i64 (delAt F)) := by
  intro w H
  have HL := Lib.hid hl
  have HF := Lib.hid hF
  clear hl hF
  go_enter Try.func69, Try.ntmps69
  go_wp2_with (go_skip)
  have H0 := H
  clear H
  go_loopw [8] (fun i wr => ∃ k : Nat, k ≤ firstDel F ∧ k ≤ n ∧ i = .int .i64 k ∧ Heap W l wr) (fun i _ => n - (intOf i).toNat)
  case atStart => exact ⟨0, Nat.zero_le _, Nat.zero_le _, rfl, H0⟩
  case round =>
    obtain ⟨k, hk, hkn, rfl, H'⟩ := hrel
    clear H0
    have H := H'
    clear H'
    by_cases hlt : k < n
    · have hkF : k < F.length := by rw [HL.out]; exact hlt
      have hpart := ec_part (r := r) hkF
      have hok := HF.out F[k] (List.getElem_mem hkF)
      have hsz : k * 3 + 3 ≤ (ec F r).size := by rw [ec_sz]; omega
      by_cases he : k = firstDel F
      · have hd : keepE F[k] = false := by
          have := firstDel_at F (by omega)
          subst he
          exact this
        have D := del_H (W := W) (l := l) F[k] hok
        generalize F[k] = x at *
        rw [hd] at D
        have HE := Lib.hid he
        clear he hd hok hkF
        go_wp2_with (first
          | go_skip
          | ((with_reducible show wpList _ _ _ (_ :: _) _ _); (with_reducible apply wpl_loadRH row_edg); (· rfl); (· rfl); (· exact H); (· exact m); (· exact hsz); (· exact hpart); (simp only [Act.put, List.setIfInBounds_toArray, List.set_cons_zero, List.set_cons_succ]))
          | ((with_reducible refine AnsH.call (by assumption) H ?_); clear H; intro _ H))
        go_ret
        rw [delAt_yes (by rw [← HE.out, HL.out]; exact hlt), ← HE.out]
        exact ⟨rfl, H⟩
      · have hd : keepE F[k] = true := firstDel_keep F k hkF (by omega)
        have D := del_H (W := W) (l := l) F[k] hok
        generalize F[k] = x at *
        rw [hd] at D
        have HE := Lib.hid he
        clear he hd hok hkF
        go_wp2_with (first
          | go_skip
          | ((with_reducible show wpList _ _ _ (_ :: _) _ _); (with_reducible apply wpl_loadRH row_edg); (· rfl); (· rfl); (· exact H); (· exact m); (· exact hsz); (· exact hpart); (simp only [Act.put, List.setIfInBounds_toArray, List.set_cons_zero, List.set_cons_succ]))
          | ((with_reducible refine AnsH.call (by assumption) H ?_); clear H; intro _ H))
        go_roundw
        case rel => exact ⟨k + 1, by have := HE.out; omega, by omega, by go_num, H⟩
        case measure => simp [intOf]; omega
    · have hnd : ¬ firstDel F < n := by omega
      have HN := Lib.hid hnd
      clear hnd
      go_wp2_with (go_skip)
      go_ret
      rw [delAt_no (by rw [HL.out]; exact HN.out)]
      exact ⟨rfl, H⟩
end
end Go.Proofs.Ytglehneaphigdaa
