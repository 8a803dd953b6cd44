/- Part 10 of what ProofNettingsPlay stands on: Clone6, Delete, Concat, Round, Cheap. -/
import Derived.Test.YtgobnamhdkbbeaaGreatNetPPart9
import Derived.Lib.SliceRun
import Derived.Lib.AppendZeros
import Derived.WalkMore
import Derived.Deep.LoopGhost
/- paths.Round's list: slices.Clone, IndexFunc, DeleteFunc of edges. -/
namespace Go.Proofs.YtgobnamhdkbbeaaGreat
open Go.RowKit
set_option linter.unusedSimpArgs false
set_option linter.unusedVariables false
theorem Heap.celRow {W w : World} {l : List Thing} {g e size n m : Nat} {c : Array Value} (H : Heap W (Cel g c e :: l) w) (hc : c.size = m * size) (hn : n ≤ m) (hm : m ≤ maxLen) : Heap W (RowT e size (.slice (some ⟨g, 0, none⟩) n m) n (c.toList.take (n * size)) :: l) w := by
  have h2 : n * size ≤ m * size := Nat.mul_le_mul_right _ hn
  exact H.head (World.grownBy.refl _ _) ⟨by simp; omega, .inr ⟨g, m, c, rfl, Nat.zero_le _, H.blk List.mem_cons_self, hn, hm, hc, rfl⟩⟩ (.inl rfl)
/-- A row that is not empty, as its block. -/
theorem Heap.rowCel {W w : World} {l : List Thing} {e size n : Nat} {v : Value} {xs : List Value} (H : Heap W (RowT e size v n xs :: l) w) (hn : 0 < n) :
    ∃ g m c, v = .slice (some ⟨g, 0, none⟩) n m ∧ n ≤ m ∧ m ≤ maxLen ∧ c.size = m * size ∧ c.toList.take (n * size) = xs ∧ Heap W (Cel g c e :: l) w := by
  obtain ⟨h1, ⟨_, h2⟩ | ⟨g, m, c, hv, _, hg, hnm, hm, hs, ht⟩⟩ := H.ok _ List.mem_cons_self
  · omega
  · refine ⟨g, m, c, hv, hnm, hm, hs, ht, H.head (World.grownBy.refl _ _) hg (.inl ?_)⟩
    subst hv
    rfl
/-- A block that begins with these edges. -/
def ec (F : List Edg) (r : List Value) : Array Value := (edgL F ++ r).toArray
theorem ec_sz (F : List Edg) (r : List Value) : (ec F r).size = F.length * 3 + r.length := by simp [ec, edgL_len]
theorem ec_of {c : Array Value} {F : List Edg} {n : Nat} (h : c.toList.take n = edgL F) : ∃ r, c = ec F r := by
  refine ⟨c.toList.drop n, ?_⟩
  unfold ec
  rw [← h, List.take_append_drop]
theorem edgL_take (F : List Edg) (i : Nat) (h : i ≤ F.length) : (edgL F).take (i * 3) = edgL (F.take i) := by
  have e : edgL F = edgL (F.take i) ++ edgL (F.drop i) := by rw [← edgL_app, List.take_append_drop]
  have hl : (edgL (F.take i)).length = i * 3 := by rw [edgL_len, List.length_take, Nat.min_eq_left h]
  rw [e, ← hl]
  exact List.take_left
theorem edgL_drop (F : List Edg) (i : Nat) (h : i ≤ F.length) : (edgL F).drop (i * 3) = edgL (F.drop i) := by
  have e : edgL F = edgL (F.take i) ++ edgL (F.drop i) := by rw [← edgL_app, List.take_append_drop]
  have hl : (edgL (F.take i)).length = i * 3 := by rw [edgL_len, List.length_take, Nat.min_eq_left h]
  rw [e, ← hl]
  exact List.drop_left
theorem edgL_set (F : List Edg) (i : Nat) (x : Edg) (h : i < F.length) : edgL (F.set i x) = (edgL F).take (i * 3) ++ (edgV x ++ (edgL F).drop (i * 3 + 3)) := by
  rw [List.set_eq_take_append_cons_drop, if_pos h, edgL_app, edgL_take F i (by omega), show i * 3 + 3 = (i + 1) * 3 by omega, edgL_drop F (i + 1) (by omega)]
  rfl
theorem ec_part {F : List Edg} {r : List Value} {k : Nat} (h : k < F.length) : (ec F r).extract (k * 3) (k * 3 + 3) = edg F[k].f F[k].t F[k].c := by
  unfold ec
  have h1 := edgL_at F k h
  have h2 : k * 3 + 3 ≤ (edgL F).length := by rw [edgL_len]; omega
  apply Array.ext'
  rw [List.extract_toArray, List.toList_toArray, List.extract_eq_take_drop]
  rw [show k * 3 + 3 - k * 3 = 3 by omega, List.drop_append_of_le_length (by omega), List.take_append_of_le_length (by simp; omega), h1]
  rfl
theorem ec_put {F : List Edg} {r : List Value} {k : Nat} (x : Edg) (h : k < F.length) : splice (ec F r) (k * 3) (edg x.f x.t x.c) = ec (F.set k x) r := by
  unfold ec splice
  rw [edgL_set F k x h]
  have h2 : k * 3 + 3 ≤ (edgL F).length := by rw [edgL_len]; omega
  have h3 : (edg x.f x.t x.c).size = 3 := rfl
  have h4 : (edg x.f x.t x.c).toList = edgV x := rfl
  rw [h3, h4, List.toList_toArray, List.take_append_of_le_length (by omega), List.drop_append_of_le_length (by omega)]
  simp only [List.append_assoc]
def keepE (x : Edg) : Bool := mayP x.f && mayP x.t
theorem slE : SlTy Tryz.prog 113 141 3 3 (.agg #[.int .u8 0, .int .u8 0, .int .i8 0]) := slTy_mk Tryz.underlying113 (by kernel_rfl) rfl (by decide)
theorem edgL_ones (F : List Edg) : OneCells (edgL F) := by
  intro u hu
  obtain ⟨x, _, hx⟩ := List.mem_flatMap.1 hu
  simp [edgV] at hx
  rcases hx with rfl | rfl | rfl <;> rfl
theorem wpl_append00 {ops : Array Oper} {rest : List Oper} {o : Oper} {a : Act} {w : World} {Q : Exit → Act → World → Prop} {t e size bytes : Nat} {z : Value} (T : SlTy Tryz.prog t e size bytes z) (hgd : o.guard = none) {s x : Operand}
    (ho : o.op = .call { callee := .builtin .append, args := #[s, x], argTypes := #[t, t] }) {q : Nat} {b : Addr} {c : Nat} (hs : a.eval s = .slice (some ⟨q, 0, none⟩) 0 0) (hx : a.eval x = .slice (some b) 0 c)
    (h : wpList Tryz.prog ops Q rest (a.put o.dst (.slice (some ⟨q, 0, none⟩) 0 0)) w) : wpList Tryz.prog ops Q (o :: rest) a w := by
  obtain ⟨i, hi, hz, hsi, hbi⟩ := T.inf
  have hr : (Builtin.append_ #[t, t] o.type #[.slice (some ⟨q, 0, none⟩) 0 0, .slice (some b) 0 c]).run Tryz.prog w = .ok (.slice (some ⟨q, 0, none⟩) 0 0) w := by
    simp [Builtin.append_, run_underlying T.und, sizeOf, typeInfo, hi, Builtin.lenOf, Builtin.firstCells, loadCells, loadCellsFrom, storeCells]
  refine wpList_plain hgd fun K hK => ?_
  unfold Oper.wp execOp
  simp only [ho, resolve, invoke, builtin, Sem.run_bind, Sem.run_pure, Result.andThen_ok, List.map_toArray, List.map_cons, List.map_nil, hs, hx, hr]
  exact hK _ _ h
/-- What Clone answers. -/
def ClonePost (W : World) (l : List Thing) (F : List Edg) (e : Ending) (w' : World) : Prop :=
  ∃ a c, e = .returned (.slice a F.length c) ∧ F.length ≤ c ∧ c ≤ maxLen ∧ ((F = [] ∧ Heap W l w') ∨ ∃ g r, a = some ⟨g, 0, none⟩ ∧ (ec F r).size = c * 3 ∧ Heap W (Cel g (ec F r) 141 :: l) w')
section
variable {W w : World} {l : List Thing}
set_option maxRecDepth 100000
set_option maxHeartbeats 2000000
theorem del_H (x : Edg) (hx : EdgOk x) : AnsH W l 87 #[.agg (edg x.f x.t x.c)] (.bool (!keepE x)) := by
  intro w H
  obtain ⟨a, b, n⟩ := x
  obtain ⟨h1, h2, h3, h4⟩ := hx
  simp only at h1 h2 h3 h4
  have m1 := may6 a h1
  have m2 := may6 b h2
  unfold keepE
  cases e1 : mayP a
  · rw [e1] at m1
    clear e1
    go_enter Tryz.func87, Tryz.ntmps87
    go_wp2_with (first
      | go_skip
      | ((with_reducible show wpList _ _ _ (_ :: _) _ _); (with_reducible apply wpl_boxRH); (· rfl); (· rfl); (· exact H); (clear H; intro p _ H); (simp only [Act.put, List.setIfInBounds_toArray, List.set_cons_zero, List.set_cons_succ]))
      | ((with_reducible show wpList _ _ _ (_ :: _) _ _); (with_reducible apply wpl_loadCH); (· exact cell_party); (· rfl); (· rfl); (· exact H); (· (repeat (first | (with_reducible exact List.mem_cons_self) | with_reducible apply List.mem_cons_of_mem))); (· (with_reducible first | exact edg_g0 .. | exact edg_g1 .. | exact edg_g2 ..)); (simp only [Act.put, List.setIfInBounds_toArray, List.set_cons_zero, List.set_cons_succ]))
      | ((with_reducible refine Ans.callH (by assumption) H ?_); clear H; intro _ H))
    go_ret
    exact ⟨rfl, H.tail⟩
  · rw [e1] at m1
    clear e1
    cases e2 : mayP b
    · rw [e2] at m2
      clear e2
      go_enter Tryz.func87, Tryz.ntmps87
      go_wp2_with (first
        | go_skip
        | ((with_reducible show wpList _ _ _ (_ :: _) _ _); (with_reducible apply wpl_boxRH); (· rfl); (· rfl); (· exact H); (clear H; intro p _ H); (simp only [Act.put, List.setIfInBounds_toArray, List.set_cons_zero, List.set_cons_succ]))
        | ((with_reducible show wpList _ _ _ (_ :: _) _ _); (with_reducible apply wpl_loadCH); (· exact cell_party); (· rfl); (· rfl); (· exact H); (· (repeat (first | (with_reducible exact List.mem_cons_self) | with_reducible apply List.mem_cons_of_mem))); (· (with_reducible first | exact edg_g0 .. | exact edg_g1 .. | exact edg_g2 ..)); (simp only [Act.put, List.setIfInBounds_toArray, List.set_cons_zero, List.set_cons_succ]))
        | ((with_reducible refine Ans.callH (by assumption) H ?_); clear H; intro _ H))
      go_ret
      exact ⟨rfl, H.tail⟩
    · rw [e2] at m2
      clear e2
      go_enter Tryz.func87, Tryz.ntmps87
      go_wp2_with (first
        | go_skip
        | ((with_reducible show wpList _ _ _ (_ :: _) _ _); (with_reducible apply wpl_boxRH); (· rfl); (· rfl); (· exact H); (clear H; intro p _ H); (simp only [Act.put, List.setIfInBounds_toArray, List.set_cons_zero, List.set_cons_succ]))
        | ((with_reducible show wpList _ _ _ (_ :: _) _ _); (with_reducible apply wpl_loadCH); (· exact cell_party); (· rfl); (· rfl); (· exact H); (· (repeat (first | (with_reducible exact List.mem_cons_self) | with_reducible apply List.mem_cons_of_mem))); (· (with_reducible first | exact edg_g0 .. | exact edg_g1 .. | exact edg_g2 ..)); (simp only [Act.put, List.setIfInBounds_toArray, List.set_cons_zero, List.set_cons_succ]))
        | ((with_reducible refine Ans.callH (by assumption) H ?_); clear H; intro _ H))
      go_ret
      exact ⟨rfl, H.tail⟩
theorem clone_H (ea : Option Addr) (en ec0 : Nat) (F : List Edg) (hl : F.length = en) (hn : en ≤ 1000000) (R : ∀ w', Heap W l w' → Rd w' ea (edgL F)) (H : Heap W l w) :
    Calls Tryz.prog 86 #[.slice ea en ec0] w (ClonePost W l F) := by
  have HL := Lib.hid hl
  have HR := Lib.hid R
  clear hl R
  cases ea with
  | none =>
    have hz : en = 0 := by
      apply Classical.byContradiction
      intro hne
      obtain ⟨b, o, he, _⟩ := HR.out w H 0 (by rw [edgL_len, HL.out]; omega)
      cases he
    subst hz
    have hF : F = [] := List.eq_nil_of_length_eq_zero HL.out
    have hnil : ∀ V, (binOp .eql 113 (.slice none 0 ec0) (.slice none 0 0)).run Tryz.prog V = .ok (.bool true) V := fun V => Lib.run_eql_slice_nil V _ _ none 0 ec0 0 0 Tryz.underlying113
    go_enter Tryz.func86, Tryz.ntmps86
    go_wp2_with (go_skip)
    go_ret
    subst hF
    exact ⟨none, 0, rfl, Nat.le_refl _, by unfold maxLen; omega, .inl ⟨rfl, H⟩⟩
  | some a0 =>
    obtain ⟨b, o, sp⟩ := a0
    have hsp : F = [] ∨ sp = none := by
      rcases Nat.eq_zero_or_pos F.length with h | h
      · exact .inl (List.eq_nil_of_length_eq_zero h)
      · obtain ⟨b', o', he, _⟩ := HR.out w H 0 (by rw [edgL_len]; omega)
        cases he
        exact .inr rfl
    have hnil : ∀ V, (binOp .eql 113 (.slice (some ⟨b, o, sp⟩) en ec0) (.slice none 0 0)).run Tryz.prog V = .ok (.bool false) V := fun V => Lib.run_eql_slice_nil V _ _ (some ⟨b, o, sp⟩) en ec0 0 0 Tryz.underlying113
    rcases Nat.eq_zero_or_pos en with h0 | h0
    · subst h0
      have hF : F = [] := List.eq_nil_of_length_eq_zero HL.out
      go_enter Tryz.func86, Tryz.ntmps86
      go_wp2_with (first
        | go_skip
        | ((with_reducible show wpList _ _ _ (_ :: _) _ _); (with_reducible apply wpl_bs0); (· rfl); (· exact slE); (· exact H); (clear H; intro pq _ H); (simp only [Act.put, List.setIfInBounds_toArray, List.set_cons_zero, List.set_cons_succ]))
        | ((with_reducible show wpList _ _ _ (_ :: _) _ _); (with_reducible apply wpl_append00 slE); (· rfl); (· rfl); (· rfl); (· rfl); (simp only [Act.put, List.setIfInBounds_toArray, List.set_cons_zero, List.set_cons_succ])))
      go_ret
      subst hF
      exact ⟨_, 0, rfl, Nat.le_refl _, by unfold maxLen; omega, .inl ⟨rfl, H.tail⟩⟩
    · obtain rfl : sp = none := by
        rcases hsp with h | h
        · subst h; have := HL.out; simp at this; omega
        · exact h
      have h1 : 0 + en ≤ maxLen := by unfold maxLen; omega
      have h2 : (0 + en) * 3 ≤ 140737488355328 := by omega
      have h3 : (edgL F).length = en * 3 := by rw [edgL_len, HL.out]
      go_enter Tryz.func86, Tryz.ntmps86
      go_wp2_with (first
        | go_skip
        | ((with_reducible show wpList _ _ _ (_ :: _) _ _); (with_reducible apply wpl_bs0); (· rfl); (· exact slE); (· exact H); (clear H; intro pq _ H); (simp only [Act.put, List.setIfInBounds_toArray, List.set_cons_zero, List.set_cons_succ]))
        | ((with_reducible show wpList _ _ _ (_ :: _) _ _); (with_reducible apply wpl_appendH slE); (· rfl); (· rfl); (· rfl); (· rfl); (· exact H.celRow (n := 0) (m := 0) rfl (Nat.le_refl _) (Nat.zero_le _)); (· exact HR.out _ H.tail); (· exact h3); (· exact edgL_ones F); (· exact h1); (· exact h2); (clear H; intro v2 _ H); (simp only [Act.put, List.setIfInBounds_toArray, List.set_cons_zero, List.set_cons_succ])))
      go_ret
      obtain ⟨g, m, c, hv, hm1, hm2, hcs, hct, Hc⟩ := H.rowCel (by omega)
      have hct2 : c.toList.take (en * 3) = edgL F := by simpa using hct
      obtain ⟨r, rfl⟩ := ec_of hct2
      refine ⟨some ⟨g, 0, none⟩, m, ?_, by rw [HL.out]; omega, hm2, .inr ⟨g, r, rfl, hcs, Hc⟩⟩
      rw [HL.out, hv, Nat.zero_add]
      rfl
/-- Where the first one is that shall go. -/
def firstDel : List Edg → Nat
  | [] => 0
  | x :: F => if keepE x then firstDel F + 1 else 0
theorem firstDel_le : ∀ F : List Edg, firstDel F ≤ F.length
  | [] => Nat.le_refl _
  | x :: F => by have := firstDel_le F; unfold firstDel; split <;> simp <;> omega
theorem firstDel_keep : ∀ (F : List Edg) (k : Nat) (h : k < F.length), k < firstDel F → keepE F[k] = true
  | [], _, h, _ => by simp at h
  | x :: F, 0, h, hk => by
    unfold firstDel at hk
    by_cases e : keepE x = true
    · exact e
    · rw [if_neg e] at hk; omega
  | x :: F, k + 1, h, hk => by
    unfold firstDel at hk
    by_cases e : keepE x = true
    · rw [if_pos e] at hk
      exact firstDel_keep F k (by simpa using h) (by omega)
    · rw [if_neg e] at hk; omega
theorem firstDel_at : ∀ (F : List Edg) (h : firstDel F < F.length), keepE F[firstDel F] = false
  | [], h => by simp at h
  | x :: F, h => by
    by_cases e : keepE x = true
    · have h2 : firstDel (x :: F) = firstDel F + 1 := by rw [firstDel, if_pos e]
      have h3 : firstDel F < F.length := by rw [h2] at h; simpa using h
      have := firstDel_at F h3
      simp only [h2, List.getElem_cons_succ]
      exact this
    · have h2 : firstDel (x :: F) = 0 := by rw [firstDel, if_neg e]
      simp only [h2, List.getElem_cons_zero]
      simpa using e
/-- Its index; -1, if there is none. -/
def delAt (F : List Edg) : Int := if firstDel F < F.length then (firstDel F : Int) else -1
theorem delAt_yes {F : List Edg} (h : firstDel F < F.length) : delAt F = (firstDel F : Int) := if_pos h
theorem delAt_no {F : List Edg} (h : ¬ firstDel F < F.length) : delAt F = -1 := if_neg h
theorem index_E (g n c : Nat) (F : List Edg) (r : List Value) (hl : F.length = n) (hn : n ≤ 1000000) (hF : ∀ x ∈ F, EdgOk x) (m : Cel g (ec F r) 141 ∈ l) :
    AnsH W l 111 #[.slice (some ⟨g, 0, none⟩) n c, .func (.func 87) #[] #[]] (.int .i64 (delAt F)) := by
  intro w H
  have HL := Lib.hid hl
  have HF := Lib.hid hF
  clear hl hF
  go_enter Tryz.func111, Tryz.ntmps111
  go_wp2_with (go_skip)
  have H0 := H
  clear H
  go_loopw [8] (fun i wr => ∃ k : Nat, k ≤ firstDel F ∧ k ≤ n ∧ i = .int .i64 k ∧ Heap W l wr) (fun i _ => n - (intOf i).toNat)
  case atStart => exact ⟨0, Nat.zero_le _, Nat.zero_le _, rfl, H0⟩
  case round =>
    obtain ⟨k, hk, hkn, rfl, H'⟩ := hrel
    clear H0
    have H := H'
    clear H'
    by_cases hlt : k < n
    · have hkF : k < F.length := by rw [HL.out]; exact hlt
      have hpart := ec_part (r := r) hkF
      have hok := HF.out F[k] (List.getElem_mem hkF)
      have hsz : k * 3 + 3 ≤ (ec F r).size := by rw [ec_sz]; omega
      by_cases he : k = firstDel F
      · have hd : keepE F[k] = false := by
          have := firstDel_at F (by omega)
          subst he
          exact this
        have D := del_H (W := W) (l := l) F[k] hok
        generalize F[k] = x at *
        rw [hd] at D
        have HE := Lib.hid he
        clear he hd hok hkF
        go_wp2_with (first
          | go_skip
          | ((with_reducible show wpList _ _ _ (_ :: _) _ _); (with_reducible apply wpl_loadRH row_edg); (· rfl); (· rfl); (· exact H); (· exact m); (· exact hsz); (· exact hpart); (simp only [Act.put, List.setIfInBounds_toArray, List.set_cons_zero, List.set_cons_succ]))
          | ((with_reducible refine AnsH.call (by assumption) H ?_); clear H; intro _ H))
        go_ret
        rw [delAt_yes (by rw [← HE.out, HL.out]; exact hlt), ← HE.out]
        exact ⟨rfl, H⟩
      · have hd : keepE F[k] = true := firstDel_keep F k hkF (by omega)
        have D := del_H (W := W) (l := l) F[k] hok
        generalize F[k] = x at *
        rw [hd] at D
        have HE := Lib.hid he
        clear he hd hok hkF
        go_wp2_with (first
          | go_skip
          | ((with_reducible show wpList _ _ _ (_ :: _) _ _); (with_reducible apply wpl_loadRH row_edg); (· rfl); (· rfl); (· exact H); (· exact m); (· exact hsz); (· exact hpart); (simp only [Act.put, List.setIfInBounds_toArray, List.set_cons_zero, List.set_cons_succ]))
          | ((with_reducible refine AnsH.call (by assumption) H ?_); clear H; intro _ H))
        go_roundw
        case rel => exact ⟨k + 1, by have := HE.out; omega, by omega, by go_num, H⟩
        case measure => simp [intOf]; omega
    · have hnd : ¬ firstDel F < n := by omega
      have HN := Lib.hid hnd
      clear hnd
      go_wp2_with (go_skip)
      go_ret
      rw [delAt_no (by rw [HL.out]; exact HN.out)]
      exact ⟨rfl, H⟩
end
end Go.Proofs.YtgobnamhdkbbeaaGreat

/- slices.DeleteFunc of edges. -/
namespace Go.Proofs.YtgobnamhdkbbeaaGreat
open Go.RowKit
set_option linter.unusedSimpArgs false
set_option linter.unusedVariables false
theorem keep_take : ∀ (F : List Edg), (F.take (firstDel F)).filter keepE = F.take (firstDel F)
  | [] => rfl
  | x :: F => by
    by_cases e : keepE x = true
    · rw [firstDel, if_pos e, List.take_succ_cons, List.filter_cons_of_pos e, keep_take F]
    · rw [firstDel, if_neg e]; rfl
theorem take_filter_yes {F : List Edg} {k : Nat} (h : k < F.length) (e : keepE F[k] = true) : (F.take (k + 1)).filter keepE = (F.take k).filter keepE ++ [F[k]] := by
  rw [List.take_add_one, List.getElem?_eq_getElem h, Option.toList_some, List.filter_append, List.filter_cons_of_pos e]
  rfl
theorem take_filter_no {F : List Edg} {k : Nat} (h : k < F.length) (e : keepE F[k] = false) : (F.take (k + 1)).filter keepE = (F.take k).filter keepE := by
  rw [List.take_add_one, List.getElem?_eq_getElem h, Option.toList_some, List.filter_append, List.filter_cons_of_neg (by rw [e]; exact Bool.false_ne_true)]
  simp
structure DelInv (F G : List Edg) (k j : Nat) : Prop where
  len : G.length = F.length
  lt : j < k
  take : G.take j = (F.take k).filter keepE
  drop : G.drop k = F.drop k
theorem DelInv.start {F : List Edg} (h : firstDel F < F.length) : DelInv F F (firstDel F + 1) (firstDel F) :=
  ⟨rfl, Nat.lt_succ_self _, by rw [take_filter_no h (firstDel_at F h), keep_take], rfl⟩
theorem DelInv.at {F G : List Edg} {k j : Nat} (h : DelInv F G k j) (hk : k < F.length) : G[k]'(by rw [h.len]; exact hk) = F[k] := by
  have h1 : (G.drop k)[0]? = (F.drop k)[0]? := by rw [h.drop]
  rw [List.getElem?_drop, List.getElem?_drop, Nat.add_zero, List.getElem?_eq_getElem (by rw [h.len]; exact hk), List.getElem?_eq_getElem hk] at h1
  exact Option.some.inj h1
theorem DelInv.no {F G : List Edg} {k j : Nat} (h : DelInv F G k j) (hk : k < F.length) (e : keepE F[k] = false) : DelInv F G (k + 1) j :=
  ⟨h.len, Nat.lt_succ_of_lt h.lt, by rw [take_filter_no hk e, h.take], by rw [← List.drop_drop, h.drop, List.drop_drop]⟩
theorem DelInv.yes {F G : List Edg} {k j : Nat} (h : DelInv F G k j) (hk : k < F.length) (e : keepE F[k] = true) : DelInv F (G.set j F[k]) (k + 1) (j + 1) := by
  have hj : j < G.length := by have := h.lt; rw [h.len]; omega
  refine ⟨by rw [List.length_set, h.len], Nat.succ_lt_succ h.lt, ?_, ?_⟩
  · rw [take_filter_yes hk e, ← h.take, List.take_add_one, List.getElem?_set_self hj, Option.toList_some, List.take_set_of_le (Nat.le_refl _)]
  · rw [List.drop_set_of_lt (by have := h.lt; omega), ← List.drop_drop, h.drop, List.drop_drop]
theorem DelInv.done {F G : List Edg} {j : Nat} (h : DelInv F G F.length j) : G.take j = F.filter keepE := by rw [h.take, List.take_length]
theorem filter_all {F : List Edg} (h : ¬ firstDel F < F.length) : F.filter keepE = F := by
  have h2 : firstDel F = F.length := by have := firstDel_le F; omega
  have := keep_take F
  rw [h2, List.take_length] at this
  exact this
def DelPost (W : World) (l : List Thing) (F : List Edg) (g c : Nat) (e : Ending) (w' : World) : Prop :=
  ∃ c1, e = .returned (.slice (some ⟨g, 0, none⟩) (F.filter keepE).length c) ∧ c1.toList.take ((F.filter keepE).length * 3) = edgL (F.filter keepE) ∧ Heap W (Cel g c1 141 :: l) w'
structure DelLoop (W : World) (l : List Thing) (F : List Edg) (r : List Value) (g n : Nat) (vj vk : Value) (wr : World) : Prop where
  out : ∃ (k j : Nat) (G : List Edg), k ≤ n ∧ vj = .int .i64 (j : Int) ∧ vk = .int .i64 (k : Int) ∧ DelInv F G k j ∧ Heap W (Cel g (ec G r) 141 :: l) wr
section
variable {W w : World} {l : List Thing}
set_option maxRecDepth 100000
set_option maxHeartbeats 2000000
theorem delete_H (g n c : Nat) (F : List Edg) (r : List Value) (hl : F.length = n) (hn : n ≤ 1000000) (hnc : n ≤ c) (hF : ∀ x ∈ F, EdgOk x) (H : Heap W (Cel g (ec F r) 141 :: l) w) :
    Calls Tryz.prog 85 #[.slice (some ⟨g, 0, none⟩) n c, .func (.func 87) #[] #[]] w (DelPost W l F g c) := by
  have I := index_E (W := W) (l := Cel g (ec F r) 141 :: l) g n c F r hl hn hF List.mem_cons_self
  by_cases hd : firstDel F < F.length
  · rw [delAt_yes hd] at I
    have hs := DelInv.start hd
    have hj0 : firstDel F < n := by rw [← hl]; exact hd
    have HL := Lib.hid hl
    have HF := Lib.hid hF
    clear hl hF hd
    have hne : ¬ ((firstDel F : Int) = -1) := by omega
    have hne2 : ((firstDel F : Int) == -1) = false := by simp
    have hne3 : decide ((firstDel F : Int) = -1) = false := by simp
    go_enter Tryz.func85, Tryz.ntmps85
    go_wp2_with (first | go_skip | ((with_reducible refine AnsH.call (by assumption) H ?_); clear H; intro _ H))
    have H0 := H
    clear H
    go_loopw [5, 6] (fun vj vk wr => DelLoop W l F r g n vj vk wr) (fun _ vk _ => n - (intOf vk).toNat)
    case atStart => exact ⟨_, _, F, by omega, rfl, by go_num, hs, H0⟩
    case round =>
      obtain ⟨k, j, G, hk, rfl, rfl, hI, H'⟩ := hrel.out
      clear H0 hrel hs I hne hne2 hne3
      have H := H'
      clear H'
      have hjk := hI.lt
      by_cases hlt : k < n
      · have hkF : k < F.length := by rw [HL.out]; exact hlt
        have hkG : k < G.length := by rw [hI.len]; exact hkF
        have hjG : j < G.length := by omega
        have hat := hI.at hkF
        have hpart := ec_part (r := r) hkG
        rw [hat] at hpart
        have hok := HF.out F[k] (List.getElem_mem hkF)
        have hsz : k * 3 + 3 ≤ (ec G r).size := by rw [ec_sz]; omega
        have hsj : j * 3 + 3 ≤ (ec G r).size := by rw [ec_sz]; omega
        cases e : keepE F[k]
        · have HI := Lib.hid (hI.no hkF e)
          have D := fun px => del_H (W := W) (l := Cel px (edg F[k].f F[k].t F[k].c) 141 :: Cel g (ec G r) 141 :: l) F[k] hok
          rw [e] at D
          clear hI hat hok e
          generalize F[k] = x at *
          go_wp2_with (first
            | go_skip
            | ((with_reducible show wpList _ _ _ (_ :: _) _ _); (with_reducible apply wpl_loadRH row_edg); (· rfl); (· rfl); (· exact H); (· exact List.mem_cons_self); (· exact hsz); (· exact hpart); (simp only [Act.put, List.setIfInBounds_toArray, List.set_cons_zero, List.set_cons_succ]))
            | ((with_reducible show wpList _ _ _ (_ :: _) _ _); (with_reducible apply wpl_allocRH row_edg); (· rfl); (· exact H); (clear H; intro px _ H); (simp only [Act.put, List.setIfInBounds_toArray, List.set_cons_zero, List.set_cons_succ]))
            | ((with_reducible show wpList _ _ _ (_ :: _) _ _); (with_reducible apply wpl_storeRH row_edg); (· rfl); (· rfl); (· rfl); (· with_reducible exact edg_cells ..); (· exact H); (· (repeat (first | (with_reducible exact List.mem_cons_self) | with_reducible apply List.mem_cons_of_mem))); (· (simp only [edg_sz, Nat.reduceAdd, Nat.reduceLeDiff, Nat.le_refl]; done)); (· with_reducible exact edg_splice ..); (· (repeat (first | (with_reducible exact Repl.here) | with_reducible apply Repl.there))); (clear H; intro _ H); (simp only [Act.put, List.setIfInBounds_toArray, List.set_cons_zero, List.set_cons_succ]))
            | ((with_reducible show wpList _ _ _ (_ :: _) _ _); (with_reducible apply wpl_loadRH row_edg); (· rfl); (· rfl); (· exact H); (· (repeat (first | (with_reducible exact List.mem_cons_self) | with_reducible apply List.mem_cons_of_mem))); (· (simp only [edg_sz, Nat.reduceAdd, Nat.reduceLeDiff, Nat.le_refl]; done)); (· with_reducible exact edg_all ..); (simp only [Act.put, List.setIfInBounds_toArray, List.set_cons_zero, List.set_cons_succ]))
            | ((with_reducible refine AnsH.call (D _) H ?_); clear H; intro _ H))
          refine ⟨⟨k + 1, j, G, by omega, rfl, by go_num, HI.out, H.tail⟩, ?measure⟩
          case measure => simp [intOf]; omega
        · have HI := Lib.hid (hI.yes hkF e)
          have D := fun px => del_H (W := W) (l := Cel px (edg F[k].f F[k].t F[k].c) 141 :: Cel g (ec G r) 141 :: l) F[k] hok
          rw [e] at D
          clear hI hat hok e
          generalize F[k] = x at *
          have hput := ec_put (r := r) x hjG
          go_wp2_with (first
            | go_skip
            | ((with_reducible show wpList _ _ _ (_ :: _) _ _); (with_reducible apply wpl_loadRH row_edg); (· rfl); (· rfl); (· exact H); (· exact List.mem_cons_self); (· exact hsz); (· exact hpart); (simp only [Act.put, List.setIfInBounds_toArray, List.set_cons_zero, List.set_cons_succ]))
            | ((with_reducible show wpList _ _ _ (_ :: _) _ _); (with_reducible apply wpl_allocRH row_edg); (· rfl); (· exact H); (clear H; intro px _ H); (simp only [Act.put, List.setIfInBounds_toArray, List.set_cons_zero, List.set_cons_succ]))
            | ((with_reducible show wpList _ _ _ (_ :: _) _ _); (with_reducible apply wpl_storeRH row_edg); (· rfl); (· rfl); (· rfl); (· exact edg_cells ..); (· exact H); (· exact List.mem_cons_of_mem _ List.mem_cons_self); (· exact hsj); (· exact hput); (· exact Repl.there Repl.here); (clear H; intro _ H); (simp only [Act.put, List.setIfInBounds_toArray, List.set_cons_zero, List.set_cons_succ]))
            | ((with_reducible show wpList _ _ _ (_ :: _) _ _); (with_reducible apply wpl_storeRH row_edg); (· rfl); (· rfl); (· rfl); (· with_reducible exact edg_cells ..); (· exact H); (· (repeat (first | (with_reducible exact List.mem_cons_self) | with_reducible apply List.mem_cons_of_mem))); (· (simp only [edg_sz, Nat.reduceAdd, Nat.reduceLeDiff, Nat.le_refl]; done)); (· with_reducible exact edg_splice ..); (· (repeat (first | (with_reducible exact Repl.here) | with_reducible apply Repl.there))); (clear H; intro _ H); (simp only [Act.put, List.setIfInBounds_toArray, List.set_cons_zero, List.set_cons_succ]))
            | ((with_reducible show wpList _ _ _ (_ :: _) _ _); (with_reducible apply wpl_loadRH row_edg); (· rfl); (· rfl); (· exact H); (· (repeat (first | (with_reducible exact List.mem_cons_self) | with_reducible apply List.mem_cons_of_mem))); (· (simp only [edg_sz, Nat.reduceAdd, Nat.reduceLeDiff, Nat.le_refl]; done)); (· with_reducible exact edg_all ..); (simp only [Act.put, List.setIfInBounds_toArray, List.set_cons_zero, List.set_cons_succ]))
            | ((with_reducible refine AnsH.call (D _) H ?_); clear H; intro _ H))
          refine ⟨⟨k + 1, j + 1, _, by omega, by go_num, by go_num, HI.out, H.tail⟩, ?measure⟩
          case measure => simp [intOf]; omega
      · obtain rfl : k = n := by omega
        have hD := (show G.take j = F.filter keepE by have h := hI; rw [← HL.out] at h; exact h.done)
        have hGl : G.length = k := by rw [hI.len]; exact HL.out
        have hfit : j * 3 + (k - j) * 3 ≤ (ec G r).size := by rw [ec_sz, hGl]; omega
        have hz1 : ∀ u ∈ (Value.agg #[.int .u8 0, .int .u8 0, .int .i8 0]).cells, u.oneCell' = true := by
          intro u hu
          simp [Value.cells] at hu
          rcases hu with rfl | rfl | rfl <;> rfl
        have HDD := Lib.hid hD
        have HGL := Lib.hid hGl
        clear hI hD hGl
        go_wp2_with (first
          | go_skip
          | ((with_reducible show wpList _ _ _ (_ :: _) _ _); (with_reducible apply wpl_clearC slE); (· exact hz1); (· rfl); (· rfl); (· rfl); (· exact H); (· exact hfit); (clear H; intro c1 _ hc1 hc2 H); (simp only [Act.put, List.setIfInBounds_toArray, List.set_cons_zero, List.set_cons_succ])))
        go_ret
        have hlen : (F.filter keepE).length = j := by rw [← HDD.out, List.length_take, HGL.out]; omega
        refine ⟨c1, ?_, ?_, H⟩
        · rw [hlen]; rfl
        · rw [hlen, hc2, ← HDD.out, ← edgL_take G j (by rw [HGL.out]; omega)]
          unfold ec
          rw [List.toList_toArray, List.take_append_of_le_length (by rw [edgL_len, HGL.out]; omega)]
  · rw [delAt_no hd] at I
    have HD := Lib.hid (filter_all hd)
    clear hd
    go_enter Tryz.func85, Tryz.ntmps85
    go_wp2_with (first | go_skip | ((with_reducible refine AnsH.call (by assumption) H ?_); clear H; intro _ H))
    go_ret
    refine ⟨ec F r, ?_, ?_, H⟩
    · rw [HD.out, hl]; rfl
    · rw [HD.out]
      unfold ec
      rw [List.toList_toArray, ← edgL_len]
      exact List.take_left
end
end Go.Proofs.YtgobnamhdkbbeaaGreat

/- slices.Grow, slices.Concat of parties. -/
namespace Go.Proofs.YtgobnamhdkbbeaaGreat
open Go.RowKit
set_option linter.unusedSimpArgs false
set_option linter.unusedVariables false
theorem wpl_growNil {ops : Array Oper} {rest : List Oper} {o : Oper} {a : Act} {w W : World} {l : List Thing} {Q : Exit → Act → World → Prop} {t tn e size bytes : Nat} {z : Value} (T : SlTy Tryz.prog t e size bytes z) {kn : IntKind} (htn : Tryz.prog.underlying tn = some (.int kn)) (hgd : o.guard = none) {s x : Operand}
    (ho : o.op = .call { callee := .builtin .append, args := #[s, x], argTypes := #[t, tn] }) {k : IntKind} {n : Nat} (hs : a.eval s = .slice none 0 0) (hx : a.eval x = .int k (n : Int)) (h0 : 0 < n) (hn : n ≤ 65536) (hb : n * bytes ≤ 281474976710656)
    (H : Heap W l w) (h : ∀ g m cs w', n ≤ m → m ≤ maxLen → cs.size = m * size → Heap W (Cel g cs e :: l) w' → wpList Tryz.prog ops Q rest (a.put o.dst (.slice (some ⟨g, 0, none⟩) n m)) w') : wpList Tryz.prog ops Q (o :: rest) a w := by
  obtain ⟨i, hi, hz, hsi, hbi⟩ := T.inf
  subst hsi hbi
  have hr := Lib.run_append_nil_zeros (P := Tryz.prog) w t tn o.type e i z k kn T.und htn hi hz n h0 T.pos (by omega) hb
  refine Lib.wpList_append_run w hgd s x t tn ho _ _ hs hx _ _ hr ?_
  have hge := grownCap_ge w n 0 e
  have hle := grownCap_le_maxLen w n 0 e (by unfold maxLen; omega)
  refine h _ _ _ _ hge hle ?_ (H.drew.alloc _ _)
  rw [Array.size_append, size_zeroCells, size_zeroCells, T.zc, ← Nat.add_mul, Nat.add_sub_cancel' hge]
section
variable {W w : World} {l : List Thing}
set_option maxRecDepth 100000
set_option maxHeartbeats 2000000
theorem grow_H (n : Nat) (h0 : 1 ≤ n) (hn : n ≤ 65536) (H : Heap W l w) :
    Calls Tryz.prog 112 #[.slice none 0 0, .int .i64 (n : Int)] w fun e w' => ∃ v, e = .returned v ∧ Heap W (RowT 30 1 v 0 [] :: l) w' := by
  go_enter Tryz.func112, Tryz.ntmps112
  have ht : Tryz.prog.underlying 3 = some (.int .i64) := Tryz.underlying3
  go_wp2_with (first
    | go_skip
    | ((with_reducible show wpList _ _ _ (_ :: _) _ _); (with_reducible apply wpl_growNil slP); (· exact ht); (· rfl); (· rfl); (· rfl); (· rfl); (· exact h0); (· exact hn); (· omega); (· exact H); (clear H; intro g m cs _ hm1 hm2 hcs H); (simp only [Act.put, List.setIfInBounds_toArray, List.set_cons_zero, List.set_cons_succ])))
  go_ret
  exact ⟨_, rfl, H.celRow (n := 0) (m := m) hcs (Nat.zero_le _) hm2⟩
theorem cell_parties : CellTy 58 := ⟨⟨_, Tryz.underlying58, rfl⟩, by kernel_rfl⟩
theorem pv_ones_all (L : List Nat) : OneCells (L.map pv) := by
  intro u hu
  obtain ⟨x, _, rfl⟩ := List.mem_map.1 hu
  rfl
def pick2 {α : Type} (k : Nat) (x y z : α) : α := if k = 0 then x else if k = 1 then y else z
structure CatLoop (W : World) (l : List Thing) (A B : List Nat) (vs vi : Value) (wr : World) : Prop where
  out : ∃ k : Nat, k ≤ 2 ∧ vi = .int .i64 (k : Int) ∧ Heap W (RowT 30 1 vs (pick2 k 0 A.length (A.length + B.length)) ((pick2 k [] A (A ++ B)).map pv) :: l) wr
structure LenLoop (W : World) (l : List Thing) (A B : List Nat) (vs vi : Value) (wr : World) : Prop where
  out : ∃ k : Nat, k ≤ 2 ∧ vi = .int .i64 (k : Int) ∧ vs = .int .i64 ((pick2 k 0 A.length (A.length + B.length) : Nat) : Int) ∧ Heap W l wr
theorem concat_H (q g oa ca ob cb : Nat) (A B : List Nat) (h0 : 1 ≤ A.length + B.length) (hA : A.length ≤ 1000) (hB : B.length ≤ 1000) (RA : ∀ w', Heap W l w' → Rd w' (some ⟨g, oa, none⟩) (A.map pv)) (RB : ∀ w', Heap W l w' → Rd w' (some ⟨g, ob, none⟩) (B.map pv))
    (m : Cel q #[.slice (some ⟨g, oa, none⟩) A.length ca, .slice (some ⟨g, ob, none⟩) B.length cb] 58 ∈ l) (H : Heap W l w) :
    Calls Tryz.prog 93 #[.slice (some ⟨q, 0, none⟩) 2 2] w fun e w' => ∃ v, e = .returned v ∧ Heap W (RowT 30 1 v (A.length + B.length) ((A ++ B).map pv) :: l) w' := by
  have HRA := Lib.hid RA
  have HRB := Lib.hid RB
  clear RA RB
  have hG := fun (W0 : World) (H : Heap W l W0) => grow_H (W := W) (l := l) (w := W0) (A.length + B.length) h0 (by omega) H
  rw [Int.natCast_add] at hG
  go_enter Tryz.func93, Tryz.ntmps93
  go_wp2_with (go_skip)
  have H0 := H
  clear H
  go_loopw [3, 11] (fun vs vi wr => LenLoop W l A B vs vi wr) (fun _ vi _ => 2 - (intOf vi).toNat)
  case atStart => exact ⟨0, by omega, rfl, rfl, H0⟩
  case round =>
    obtain ⟨k, hk, rfl, rfl, H'⟩ := hrel.out
    clear H0 hrel
    have H := H'
    clear H'
    by_cases hk0 : k = 0
    · subst hk0
      simp only [pick2, if_true]
      go_wp2_with (first
        | go_skip
        | ((with_reducible show wpList _ _ _ (_ :: _) _ _); (with_reducible apply wpl_loadCH); (· exact cell_parties); (· rfl); (· rfl); (· exact H); (· exact m); (· rfl); (simp only [Act.put, List.setIfInBounds_toArray, List.set_cons_zero, List.set_cons_succ])))
      refine ⟨⟨1, by omega, rfl, ?_, H⟩, ?measure⟩
      · simp [pick2]
      case measure => simp [intOf]
    · by_cases hk1 : k = 1
      · subst hk1
        have e1 : pick2 1 0 A.length (A.length + B.length) = A.length := rfl
        rw [e1]
        go_wp2_with (first
          | go_skip
          | ((with_reducible show wpList _ _ _ (_ :: _) _ _); (with_reducible apply wpl_loadCH); (· exact cell_parties); (· rfl); (· rfl); (· exact H); (· exact m); (· rfl); (simp only [Act.put, List.setIfInBounds_toArray, List.set_cons_zero, List.set_cons_succ])))
        refine ⟨⟨2, by omega, rfl, ?_, H⟩, ?measure2⟩
        · simp [pick2]
        case measure2 => simp [intOf]
      · obtain rfl : k = 2 := by omega
        have e2 : pick2 2 0 A.length (A.length + B.length) = A.length + B.length := rfl
        rw [e2]
        go_wp2_with (first
          | go_skip
          | ((with_reducible refine (hG _ H).mono ?_); clear H; rintro _ _ ⟨v0, rfl, H⟩))
        have H0 := H
        clear H hG
        go_loopw [6, 27] (fun vs vi wr => CatLoop W l A B vs vi wr) (fun _ vi _ => 2 - (intOf vi).toNat)
        case atStart => exact ⟨0, by omega, rfl, H0⟩
        case round =>
          obtain ⟨k, hk, rfl, H'⟩ := hrel.out
          clear H0 hrel
          have H := H'
          clear H'
          have hA0 : 0 + A.length ≤ maxLen := by unfold maxLen; omega
          have hA1 : (0 + A.length) * 1 ≤ 140737488355328 := by omega
          have hB0 : A.length + B.length ≤ maxLen := by unfold maxLen; omega
          have hB1 : (A.length + B.length) * 1 ≤ 140737488355328 := by omega
          have hA2 : (A.map pv).length = A.length * 1 := by simp
          have hB2 : (B.map pv).length = B.length * 1 := by simp
          by_cases hk0 : k = 0
          · subst hk0
            go_wp2_with (first
              | go_skip
              | ((with_reducible show wpList _ _ _ (_ :: _) _ _); (with_reducible apply wpl_loadCH); (· exact cell_parties); (· rfl); (· rfl); (· exact H); (· exact List.mem_cons_of_mem _ m); (· rfl); (simp only [Act.put, List.setIfInBounds_toArray, List.set_cons_zero, List.set_cons_succ]))
              | ((with_reducible show wpList _ _ _ (_ :: _) _ _); (with_reducible apply wpl_appendH slP); (· rfl); (· rfl); (· rfl); (· rfl); (· exact H); (· exact HRA.out _ H.tail); (· exact hA2); (· exact pv_ones_all A); (· exact hA0); (· exact hA1); (clear H; intro v2 _ H); (simp only [Act.put, List.setIfInBounds_toArray, List.set_cons_zero, List.set_cons_succ])))
            refine ⟨⟨1, by omega, rfl, ?_⟩, ?measure⟩
            · have e : pick2 0 0 A.length (A.length + B.length) + A.length = A.length := by simp [pick2]
              rw [e] at H
              exact H
            case measure => simp [intOf]
          · by_cases hk1 : k = 1
            · subst hk1
              go_wp2_with (first
                | go_skip
                | ((with_reducible show wpList _ _ _ (_ :: _) _ _); (with_reducible apply wpl_loadCH); (· exact cell_parties); (· rfl); (· rfl); (· exact H); (· exact List.mem_cons_of_mem _ m); (· rfl); (simp only [Act.put, List.setIfInBounds_toArray, List.set_cons_zero, List.set_cons_succ]))
                | ((with_reducible show wpList _ _ _ (_ :: _) _ _); (with_reducible apply wpl_appendH slP); (· rfl); (· rfl); (· rfl); (· rfl); (· exact H); (· exact HRB.out _ H.tail); (· exact hB2); (· exact pv_ones_all B); (· exact hB0); (· exact hB1); (clear H; intro v2 _ H); (simp only [Act.put, List.setIfInBounds_toArray, List.set_cons_zero, List.set_cons_succ])))
              refine ⟨⟨2, by omega, rfl, ?_⟩, ?measure2⟩
              · have e : (pick2 2 [] A (A ++ B)).map pv = (pick2 1 [] A (A ++ B)).map pv ++ B.map pv := by simp [pick2]
                rw [e]
                exact H
              case measure2 => simp [intOf]
            · obtain rfl : k = 2 := by omega
              go_wp2_with (go_skip)
              go_ret
              exact ⟨_, rfl, H⟩
end
end Go.Proofs.YtgobnamhdkbbeaaGreat

/- paths.Round: a round that costs less than nothing. -/
namespace Go.Proofs.YtgobnamhdkbbeaaGreat
open Go.RowKit
set_option linter.unusedSimpArgs false
set_option linter.unusedVariables false
def zeroS : Srch := ⟨fun _ => 0, fun _ => 0, 0⟩
/-- So many times through all edges, while something changes. -/
def runS (F : List Edg) : Nat → Srch → Option Srch
  | 0, s => some s
  | n + 1, s => if (onceS F s).last = 0 then none else runS F n (onceS F s)
/-- Who is so many steps ahead. -/
def back (P : Nat → Nat) : Nat → Nat → Nat
  | 0, a => a
  | n + 1, a => back P n (P a)
/-- All who are ahead, each once. -/
def orbit (P : Nat → Nat) : Nat → Nat → List Nat → List Nat
  | 0, _, L => L
  | n + 1, a, L => if a ∈ L then L else orbit P n (P a) (L ++ [a])
def turnL (L : List Nat) : List Nat := L.drop (L.idxOf (minL L)) ++ L.take (L.idxOf (minL L))
/-- The round. -/
def roundOf (F : List Edg) : List Nat := match runS F 16 zeroS with
  | none => []
  | some s => turnL (orbit s.P 18 (back s.P 16 s.last) []).reverse
theorem pc_of {c : Array Value} {L : List Nat} (h : c.toList.take (L.length * 1) = L.map pv) : ∃ r, c = pc L r := by
  refine ⟨c.toList.drop (L.length * 1), ?_⟩
  unfold pc
  rw [← h, List.take_append_drop]
theorem Rd.takeN {w : World} {a : Option Addr} {xs : List Value} (h : Rd w a xs) (n : Nat) : Rd w a (xs.take n) := by
  intro i hi
  have hi2 : i < xs.length := by rw [List.length_take] at hi; omega
  obtain ⟨b, o, he, hc⟩ := h i hi2
  exact ⟨b, o, he, by rw [hc, List.getElem_take]⟩
theorem Rd.dropN {w : World} {g o : Nat} {xs : List Value} (h : Rd w (some ⟨g, o, none⟩) xs) (n : Nat) : Rd w (some ⟨g, o + n, none⟩) (xs.drop n) := by
  intro i hi
  have hi2 : n + i < xs.length := by rw [List.length_drop] at hi; omega
  obtain ⟨b, o', he, hc⟩ := h (n + i) hi2
  cases he
  exact ⟨g, o + n, rfl, by rw [Nat.add_assoc, hc, List.getElem_drop]⟩
theorem minL_mem {L : List Nat} (h : 0 < L.length) : minL L ∈ L := by
  cases L with
  | nil => simp at h
  | cons x L =>
    have key : ∀ (M : List Nat) (a : Nat), M.foldl min a = a ∨ M.foldl min a ∈ M := by
      intro M
      induction M with
      | nil => intro a; exact .inl rfl
      | cons y M ih =>
        intro a
        rcases ih (min a y) with h | h
        · rw [List.foldl_cons, h]
          rcases Nat.le_total a y with e | e
          · rw [Nat.min_eq_left e]; exact .inl rfl
          · rw [Nat.min_eq_right e]; exact .inr List.mem_cons_self
        · exact .inr (List.mem_cons_of_mem _ h)
    unfold minL
    simp only [List.headD_cons]
    rcases key (x :: L) x with h | h
    · rw [h]; exact List.mem_cons_self
    · exact h
theorem pc_rd {w W : World} {l : List Thing} {g : Nat} {L : List Nat} {r : List Value} {t : TypeId} (H : Heap W l w) (m : Cel g (pc L r) t ∈ l) : Rd w (some ⟨g, 0, none⟩) (L.map pv) := by
  have h := (H.celRd m).takeN (L.map pv).length
  unfold pc at h
  rw [List.toList_toArray, List.take_left] at h
  exact h
/-- Who came. -/
def cameB (L : List Nat) : Array Value := tab 17 fun i => .bool (decide (i ∈ L))
theorem cameB_sz (L : List Nat) : (cameB L).size = 17 := tab_size ..
theorem cameB_get (L : List Nat) {i : Nat} (h : i < 17) : (cameB L)[i]? = some (.bool (decide (i ∈ L))) := tab_get _ h
theorem cameB_set (L : List Nat) {i : Nat} (h : i < 17) : (cameB L).setIfInBounds i (.bool true) = cameB (L ++ [i]) := by
  unfold cameB
  rw [tab_set _ _ h]
  apply tab_congr
  intro j _
  by_cases e : j = i
  · subst e; simp
  · simp [e]
theorem row_came : RowTy 55 17 (cameB []) := ⟨⟨_, Tryz.underlying55, rfl⟩, by kernel_rfl, by kernel_rfl⟩
theorem nodup_le : ∀ (n : Nat) (L : List Nat), L.Nodup → (∀ x ∈ L, x < n) → L.length ≤ n
  | 0, L, _, hb => by
    cases L with
    | nil => exact Nat.le_refl _
    | cons x L => exact absurd (hb x List.mem_cons_self) (Nat.not_lt_zero _)
  | n + 1, L, h, hb => by
    by_cases hm : n ∈ L
    · have h1 := nodup_le n (L.erase n) (h.erase n) fun x hx => by
        have h2 := (h.mem_erase_iff).1 hx
        have := hb x h2.2
        have := h2.1
        omega
      rw [List.length_erase_of_mem hm] at h1
      omega
    · exact Nat.le_succ_of_le (nodup_le n L h fun x hx => by
        have := hb x hx
        have : x ≠ n := fun e => hm (e ▸ hx)
        omega)
theorem nodup_17 {L : List Nat} (h : L.Nodup) (hb : ∀ x ∈ L, x < 17) : L.length ≤ 17 := nodup_le 17 L h hb
theorem orbit_in {P : Nat → Nat} {n a : Nat} {L : List Nat} (h : a ∈ L) : orbit P (n + 1) a L = L := if_pos h
theorem orbit_out {P : Nat → Nat} {n a : Nat} {L : List Nat} (h : a ∉ L) : orbit P (n + 1) a L = orbit P n (P a) (L ++ [a]) := if_neg h
structure BLoop (W : World) (l2 : List Thing) (s : Srch) (ps : Nat) (va vi : Value) (wr : World) : Prop where
  out : ∃ k a : Nat, k ≤ 16 ∧ vi = .int .i64 (k : Int) ∧ va = .int .u8 (a : Int) ∧ a < 17 ∧ back s.P 16 s.last = back s.P (16 - k) a ∧ Heap W (Cel ps (sr s.D s.P) 147 :: l2) wr
structure OLoop (W : World) (l2 : List Thing) (s : Srch) (ps pb a0 m : Nat) (va vo : Value) (wr : World) : Prop where
  out : ∃ (a f : Nat) (L : List Nat), va = .int .u8 (a : Int) ∧ a < 17 ∧ f ≤ m ∧ f + L.length = 18 ∧ L.Nodup ∧ (∀ x ∈ L, x < 17) ∧ orbit s.P 18 a0 [] = orbit s.P f a L ∧ (L = [] → f = 18) ∧ Heap W (RowT 30 1 vo L.length (L.map pv) :: Cel pb (cameB L) 55 :: Cel ps (sr s.D s.P) 147 :: l2) wr
theorem row_sr : RowTy 147 34 (sr (fun _ => 0) (fun _ => 0)) := ⟨⟨_, Tryz.underlying147, rfl⟩, by kernel_rfl, by kernel_rfl⟩
section
variable {W w : World} {l : List Thing}
set_option maxRecDepth 100000
set_option maxHeartbeats 2000000
theorem indexE_nil (a : Option Addr) (c : Nat) (fv : Value) : Ans 111 #[.slice a 0 c, fv] (.int .i64 (-1)) := by
  intro w
  go_enter Tryz.func111, Tryz.ntmps111
  go_wp2_with (go_skip)
  go_loopw [8] (fun i wr => i = .int .i64 0 ∧ wr = w) (fun i _ => 0)
  case atStart => exact ⟨rfl, rfl⟩
  case round =>
    obtain ⟨rfl, rfl⟩ := hrel
    go_wp2_with (go_skip)
    go_ret
    exact ⟨rfl, (by repeat (first | exact Ext.refl _ | refine Ext.alloc ?_ _ | refine Ext.ext ?_ _ | refine Ext.drew ?_))⟩
theorem delete_nil (a : Option Addr) (c : Nat) (fv : Value) : Ans 85 #[.slice a 0 c, fv] (.slice a 0 c) := by
  intro w
  have I := indexE_nil a c fv
  go_enter Tryz.func85, Tryz.ntmps85
  go_wp2_with (first | go_skip | ((with_reducible refine Ans.call (by assumption) ?_); intro _))
  go_ret
  exact ⟨rfl, (by repeat (first | exact Ext.refl _ | refine Ext.alloc ?_ _ | refine Ext.ext ?_ _ | refine Ext.drew ?_))⟩
/-- Edges in memory of their own: the list of things ahead of them, and with them. -/
def Held (F : List Edg) (l l1 : List Thing) (a : Option Addr) (c : Nat) : Prop := F.length ≤ c ∧ ((F = [] ∧ l1 = l) ∨ ∃ g r, a = some ⟨g, 0, none⟩ ∧ l1 = Cel g (ec F r) 141 :: l)
theorem clone_G (ea : Option Addr) (en ec0 : Nat) (F : List Edg) (hl : F.length = en) (hn : en ≤ 1000000) (R : ∀ w', Heap W l w' → Rd w' ea (edgL F)) (H : Heap W l w) :
    Calls Tryz.prog 86 #[.slice ea en ec0] w fun e w' => ∃ a c l1, e = .returned (.slice a F.length c) ∧ Held F l l1 a c ∧ Heap W l1 w' := by
  refine (clone_H ea en ec0 F hl hn R H).mono ?_
  rintro e w' ⟨a, c, rfl, h1, h2, ⟨hF, H⟩ | ⟨g, r, rfl, hs, H⟩⟩
  · exact ⟨a, c, l, rfl, ⟨h1, .inl ⟨hF, rfl⟩⟩, H⟩
  · exact ⟨_, c, _, rfl, ⟨h1, .inr ⟨g, r, rfl, rfl⟩⟩, H⟩
/-- What is left of them. -/
structure Left (W : World) (F : List Edg) (l l2 : List Thing) (a : Option Addr) : Prop where
  rd : ∀ w', Heap W l2 w' → Rd w' a (edgL F)
  tail : ∀ w', Heap W l2 w' → Heap W l w'
  front : ∀ {t : Thing} {w' : World}, Heap W (t :: l2) w' → Heap W (t :: l) w'
theorem delete_G {l1 : List Thing} {F : List Edg} {a : Option Addr} {c : Nat} (hh : Held F l l1 a c) (hn : F.length ≤ 1000000) (hF : ∀ x ∈ F, EdgOk x) (H : Heap W l1 w) :
    Calls Tryz.prog 85 #[.slice a F.length c, .func (.func 87) #[] #[]] w fun e w' => ∃ l2, e = .returned (.slice a (F.filter keepE).length c) ∧ Left W (F.filter keepE) l l2 a ∧ Heap W l2 w' := by
  obtain ⟨hc, ⟨rfl, rfl⟩ | ⟨g, r, rfl, rfl⟩⟩ := hh
  · refine ((delete_nil a c _).toH w H).mono ?_
    rintro e w' ⟨rfl, H⟩
    refine ⟨_, rfl, ⟨fun w' _ => ?_, fun _ h => h, fun h => h⟩, H⟩
    intro i hi
    simp [edgL] at hi
  · refine (delete_H g F.length c F r rfl hn hc hF H).mono ?_
    rintro e w' ⟨c1, rfl, ht, H⟩
    refine ⟨_, rfl, ⟨fun w' H' => ?_, fun _ h => h.tail, fun h => h.drop (.there .here)⟩, H⟩
    rw [← ht]
    exact (H'.celRd List.mem_cons_self).takeN _
/-- Parties within bounds. -/
def PBnd (s : Srch) : Prop := s.last < 17 ∧ ∀ i, s.P i < 17
theorem PBnd.relax {s : Srch} {e : Edg} (h : PBnd s) (hf : e.f < 17) (ht : e.t < 17) : PBnd (relax s e) := by
  unfold Proofs.YtgobnamhdkbbeaaGreat.relax
  split
  · refine ⟨ht, fun i => ?_⟩
    simp only [updN]
    split
    · exact hf
    · exact h.2 i
  · exact h
theorem PBnd.foldl : ∀ (F : List Edg) (s : Srch), PBnd s → (∀ x ∈ F, x.f < 17 ∧ x.t < 17) → PBnd (F.foldl Proofs.YtgobnamhdkbbeaaGreat.relax s)
  | [], _, h, _ => h
  | x :: F, s, h, hF => PBnd.foldl F _ (h.relax (hF x List.mem_cons_self).1 (hF x List.mem_cons_self).2) fun y hy => hF y (List.mem_cons_of_mem _ hy)
theorem PBnd.once {F : List Edg} {s : Srch} (h : PBnd s) (hF : ∀ x ∈ F, x.f < 17 ∧ x.t < 17) : PBnd (onceS F s) := PBnd.foldl F _ ⟨by show 0 < 17; omega, h.2⟩ hF
theorem Bnd.foldl : ∀ (F : List Edg) (s : Srch) (B : Nat), Bnd B s → (∀ x ∈ F, -128 ≤ x.c) → Bnd (B + 128 * F.length) (F.foldl Proofs.YtgobnamhdkbbeaaGreat.relax s)
  | [], _, _, h, _ => h
  | x :: F, s, B, h, hF => by
    have := Bnd.foldl F _ (B + 128) (h.relax (hF x List.mem_cons_self)) fun y hy => hF y (List.mem_cons_of_mem _ hy)
    rw [List.length_cons, show B + 128 * (F.length + 1) = B + 128 + 128 * F.length by omega]
    exact this
theorem Bnd.once {F : List Edg} {s : Srch} {B : Nat} (h : Bnd B s) (hF : ∀ x ∈ F, -128 ≤ x.c) : Bnd (B + 128 * F.length) (onceS F s) := Bnd.foldl F _ B h hF
theorem keep_ok {F : List Edg} (hF : ∀ x ∈ F, EdgOk x) : ∀ x ∈ F.filter keepE, x.f < 17 ∧ x.t < 17 ∧ -128 ≤ x.c ∧ x.c ≤ 127 := by
  intro x hx
  obtain ⟨h1, h2⟩ := List.mem_filter.1 hx
  have ho := hF x h1
  unfold keepE at h2
  rw [Bool.and_eq_true] at h2
  have m1 := mayP_true h2.1
  have m2 := mayP_true h2.2
  exact ⟨by omega, by omega, ho.2.2.1, ho.2.2.2⟩
def RoundPost (W : World) (l : List Thing) (E : List Edg) (e : Ending) (w' : World) : Prop := ∃ v, e = .returned v ∧ Heap W (OwnT 30 1 v (roundOf E).length ((roundOf E).map pv) :: l) w'
structure SLoop (W : World) (l2 : List Thing) (F : List Edg) (ps : Nat) (va vi : Value) (wr : World) : Prop where
  out : ∃ (k : Nat) (s : Srch), k ≤ 16 ∧ vi = .int .i64 (k : Int) ∧ va = .int .u8 (s.last : Int) ∧ (k ≠ 0 → s.last ≠ 0) ∧ runS F 16 zeroS = runS F (16 - k) s ∧ Bnd (128 * F.length * k) s ∧ PBnd s ∧ Heap W (Cel ps (sr s.D s.P) 147 :: l2) wr
theorem runS_no {F : List Edg} {n : Nat} {s : Srch} (h : (onceS F s).last = 0) : runS F (n + 1) s = none := if_pos h
theorem runS_yes {F : List Edg} {n : Nat} {s : Srch} (h : (onceS F s).last ≠ 0) : runS F (n + 1) s = runS F n (onceS F s) := if_neg h
theorem round_H (ea : Option Addr) (en ec0 : Nat) (F : List Edg) (hl : F.length = en) (hn : en ≤ 1000000) (hF : ∀ x ∈ F, EdgOk x) (R : ∀ w', Heap W l w' → Rd w' ea (edgL F)) (H : Heap W l w) :
    Calls Tryz.prog 61 #[.slice ea en ec0] w (RoundPost W l (F.filter keepE)) := by
  have hn2 : F.length ≤ 1000000 := by omega
  have hk := keep_ok hF
  have hkl : (F.filter keepE).length ≤ 1000000 := Nat.le_trans (List.length_filter_le ..) hn2
  have C := clone_G (W := W) (l := l) (w := w) ea en ec0 F hl hn R H
  have DG := fun l1 a c w' hh H' => delete_G (W := W) (l := l) (w := w') (l1 := l1) (F := F) (a := a) (c := c) hh hn2 hF H'
  have HK := Lib.hid hk
  clear H R hF hk hl
  go_enter Tryz.func61, Tryz.ntmps61
  go_wp2_with (first
    | go_skip
    | ((with_reducible refine C.mono ?_); clear C; rintro _ _ ⟨a, c, l1, rfl, hh, H⟩)
    | ((with_reducible refine (DG _ _ _ _ hh H).mono ?_); clear H DG hh; rintro _ _ ⟨l2, rfl, hL, H⟩)
    | ((with_reducible show wpList _ _ _ (_ :: _) _ _); (with_reducible apply wpl_allocRH row_sr); (· rfl); (· exact H); (clear H; intro ps _ H); (simp only [Act.put, List.setIfInBounds_toArray, List.set_cons_zero, List.set_cons_succ])))
  go_step3
  go_wp2_with (first
    | go_skip
    | ((with_reducible refine C.mono ?_); clear C; rintro _ _ ⟨a, c, l1, rfl, hh, H⟩)
    | ((with_reducible refine (DG _ _ _ _ hh H).mono ?_); clear H DG hh; rintro _ _ ⟨l2, rfl, hL, H⟩)
    | ((with_reducible show wpList _ _ _ (_ :: _) _ _); (with_reducible apply wpl_allocRH row_sr); (· rfl); (· exact H); (clear H; intro ps _ H); (simp only [Act.put, List.setIfInBounds_toArray, List.set_cons_zero, List.set_cons_succ])))
  go_step3
  go_wp2_with (go_skip)
  generalize F.filter keepE = E at *
  have hst : PBnd zeroS := ⟨by decide, fun i => by show 0 < 17; omega⟩
  have H0 := H
  clear H
  go_loopw [5, 12] (fun va vi wr => SLoop W l2 E ps va vi wr) (fun _ vi _ => 16 - (intOf vi).toNat)
  case atStart => exact ⟨0, zeroS, by omega, rfl, rfl, (fun h => absurd rfl h), rfl, (fun i => by show -((128 * E.length * 0 : Nat) : Int) ≤ 0 ∧ (0 : Int) ≤ 0; omega), hst, H0⟩
  case round =>
    obtain ⟨k, s, hk, rfl, rfl, hne, hrun, hb, hp, H'⟩ := hrel.out
    clear H0 hrel hst
    have H := H'
    clear H'
    by_cases hlt : k < 16
    · have hon := once_H (W := W) (l := l2) (w := wr) ps a E.length c E rfl HK.out hL.rd s (128 * E.length * k) hb (by
        have : 128 * E.length * k ≤ 128 * E.length * 16 := Nat.mul_le_mul_left _ hk
        omega) H
      have hb2 := hb.once (F := E) fun x hx => (HK.out x hx).2.2.1
      have hp2 := hp.once (F := E) fun x hx => ⟨(HK.out x hx).1, (HK.out x hx).2.1⟩
      rw [show 16 - k = (15 - k) + 1 by omega] at hrun
      by_cases hz : (onceS E s).last = 0
      · rw [runS_no hz] at hrun
        have HR := Lib.hid hrun
        rw [hz] at hon
        clear hrun hne hb hp hb2 hp2 hz H
        go_wp2_with (first
          | go_skip
          | ((with_reducible refine hon.mono ?_); clear hon; rintro _ _ ⟨rfl, H⟩))
        rw [Exit.noGoto_ret]
        go_ret
        have e0 : roundOf E = [] := by unfold roundOf; rw [HR.out]
        refine ⟨_, rfl, ?_⟩
        rw [e0]
        exact ((hL.tail _ H.tail).nilRow _ _).slide
      · rw [runS_yes hz] at hrun
        have HR := Lib.hid hrun
        have hz1 : (((onceS E s).last : Int) == 0) = false := by simp; exact hz
        have hz2 : decide (((onceS E s).last : Int) = 0) = false := by simp; exact hz
        have HB := Lib.hid hb2
        have HP := Lib.hid hp2
        have HZ := Lib.hid hz
        have hl17 := hp2.1
        clear hrun hne hb hp hb2 hp2 hz H
        generalize onceS E s = s2 at *
        go_wp2_with (first
          | go_skip
          | ((with_reducible refine hon.mono ?_); clear hon; rintro _ _ ⟨rfl, H⟩))
        refine ⟨⟨k + 1, s2, by omega, by go_num, rfl, fun _ => HZ.out, ?_, ?_, HP.out, H⟩, ?measure⟩
        · rw [HR.out, show 16 - (k + 1) = 15 - k by omega]
        · have := HB.out
          rw [show 128 * E.length * (k + 1) = 128 * E.length * k + 128 * E.length by rw [Nat.mul_add, Nat.mul_one]]
          exact this
        case measure => simp [intOf]; omega
    · obtain rfl : k = 16 := by omega
      have hz := hne (by omega)
      have hz1 : ((s.last : Int) == 0) = false := by simp; exact hz
      have hz2 : decide ((s.last : Int) = 0) = false := by simp; exact hz
      have HR := Lib.hid (show runS E 16 zeroS = some s from hrun)
      have HP := Lib.hid hp.2
      have hl17 := hp.1
      clear hrun hne hb hp hz
      go_wp2_with (go_skip)
      have H0 := H
      clear H
      go_loopw [5, 21] (fun va vi wr => BLoop W l2 s ps va vi wr) (fun _ vi _ => 16 - (intOf vi).toNat)
      case atStart => exact ⟨0, s.last, by omega, rfl, rfl, hl17, rfl, H0⟩
      case round =>
        obtain ⟨k, b, hkk, rfl, rfl, hb17, hbk, H'⟩ := hrel.out
        clear H0 hrel
        have H := H'
        clear H'
        by_cases hlt2 : k < 16
        · have hP := HP.out b
          rw [show 16 - k = (15 - k) + 1 by omega] at hbk
          have HBK := Lib.hid (show back s.P 16 s.last = back s.P (15 - k) (s.P b) from hbk)
          clear hbk
          go_wp2_with (first
            | go_skip
            | ((with_reducible show wpList _ _ _ (_ :: _) _ _); (with_reducible apply wpl_loadCH); (· exact cell_party); (· rfl); (· rfl); (· exact H); (· exact List.mem_cons_self); (· exact sr_getP _ _ hb17); (simp only [Act.put, List.setIfInBounds_toArray, List.set_cons_zero, List.set_cons_succ])))
          refine ⟨⟨k + 1, s.P b, by omega, by go_num, rfl, hP, ?_, H⟩, ?measure3⟩
          · rw [HBK.out, show 16 - (k + 1) = 15 - k by omega]
          case measure3 => simp [intOf]; omega
        · obtain rfl : k = 16 := by omega
          have HBK := Lib.hid (show back s.P 16 s.last = b from hbk)
          clear hbk
          go_wp2_with (first | go_skip | ((with_reducible show wpList _ _ _ (_ :: _) _ _); (with_reducible apply wpl_allocRH row_came); (· rfl); (· exact H); (clear H; intro pb _ H); (simp only [Act.put, List.setIfInBounds_toArray, List.set_cons_zero, List.set_cons_succ])))
          have H0 := H.nilRow 30 1
          clear H
          go_loopg [5, 7] 18 (fun m va vo wr => OLoop W l2 s ps pb b m va vo wr)
          case atStart => exact ⟨b, 18, [], rfl, hb17, Nat.le_refl _, rfl, List.nodup_nil, (fun x hx => by cases hx), rfl, fun _ => rfl, H0⟩
          case round =>
            obtain ⟨a1, f, L, rfl, ha17, hfm, hfl, hnd, hL17, hor, hnil, H'⟩ := hrel.out
            clear H0 hrel
            have H := H'
            clear H'
            have hL1 := nodup_17 hnd hL17
            have hq1 : L.length + 1 ≤ maxLen := by unfold maxLen; omega
            have hq2 : (L.length + 1) * 1 ≤ 140737488355328 := by omega
            obtain ⟨f, rfl⟩ : ∃ f', f = f' + 1 := ⟨f - 1, by omega⟩
            by_cases hin : a1 ∈ L
            · rw [orbit_in hin] at hor
              have hget : (cameB L)[a1]? = some (.bool true) := by rw [cameB_get L ha17]; simp [hin]
              have hL0 : 0 < L.length := List.length_pos_of_mem hin
              obtain ⟨gl, ml, cl, rfl, hm1, hm2, hcl, htl, H2⟩ := H.rowCel hL0
              clear H
              have H := H2
              clear H2
              obtain ⟨rl, rfl⟩ := pc_of htl
              have HOR := Lib.hid hor
              clear hor hin hnil hfm hfl
              go_wp2_with (first
                | go_skip
                | ((with_reducible show wpList _ _ _ (_ :: _) _ _); (with_reducible apply wpl_loadCH); (· exact cell_bool); (· rfl); (· rfl); (· exact H); (· exact List.mem_cons_of_mem _ List.mem_cons_self); (· exact hget); (simp only [Act.put, List.setIfInBounds_toArray, List.set_cons_zero, List.set_cons_succ])))
              have hLm : L.length ≤ 1000000 := by omega
              go_wp2_with ((with_reducible refine (reverse_H _ _ _ L _ rfl hLm H).mono ?_); clear H; rintro _ _ ⟨rfl, H⟩)
              have hML : L.reverse.length = L.length := List.length_reverse
              have hM255 : ∀ y ∈ L.reverse, y ≤ 255 := fun y hy => by have := hL17 y (List.mem_reverse.1 hy); omega
              have hmm := minL_mem (L := L.reverse) (by rw [hML]; exact hL0)
              have hmi := hM255 _ hmm
              have hRd : ∀ w', Heap W (Cel gl (pc L.reverse rl) 30 :: Cel pb (cameB L) 55 :: Cel ps (sr s.D s.P) 147 :: l2) w' → Rd w' (some ⟨gl, 0, none⟩) (L.reverse.map pv) := fun w' H' => pc_rd H' List.mem_cons_self
              have MA := min_H gl 0 L.length ml L.reverse hML hL0 (by omega) hM255 hRd
              have IA := index_H gl 0 L.length ml L.reverse (minL L.reverse) hML (by omega) hM255 hmm hRd
              have hidx : L.reverse.idxOf (minL L.reverse) < L.length := by rw [← hML]; exact List.idxOf_lt_length_of_mem hmm
              have HOM := Lib.hid (show roundOf E = turnL L.reverse by unfold roundOf; rw [HR.out]; simp only [HBK.out, HOR.out])
              unfold turnL at HOM
              have HT := Lib.hid hRd
              clear hRd hM255 hnd hL17
              generalize L.reverse = M at *
              generalize M.idxOf (minL M) = j at *
              generalize minL M = mn at *
              go_wp2_with (first | go_skip | ((with_reducible refine AnsH.call (by assumption) H ?_); clear H; intro _ H))
              have hjm : j < ml := by omega
              have hA : (M.drop j).length = L.length - j := by rw [List.length_drop, hML]
              have hB : (M.take j).length = j := by rw [List.length_take, hML]; omega
              clear MA IA hmm
              refine wp_region_H_tail 6 H (by kernel_rfl) (by kernel_rfl) ?_
              simp only [List.take_succ_cons, List.take_zero, List.drop_succ_cons, List.drop_zero]
              repeat (first | go_big_quiet_skip | fail | go_big_quiet_step (fail))
              refine wpQuiet_nil ?_
              clear H
              intro _ H
              have CC : ∀ pq W0, Heap W (Cel pq #[.slice (some ⟨gl, j, none⟩) (L.length - j) (ml - j), .slice (some ⟨gl, 0, none⟩) j ml] 58 :: Cel gl (pc M rl) 30 :: Cel pb (cameB L) 55 :: Cel ps (sr s.D s.P) 147 :: l2) W0 → Calls Tryz.prog 93 #[.slice (some ⟨pq, 0, none⟩) 2 2] W0 fun e w' => ∃ v, e = .returned v ∧ Heap W (RowT 30 1 v (roundOf E).length ((roundOf E).map pv) :: Cel pq #[.slice (some ⟨gl, j, none⟩) (L.length - j) (ml - j), .slice (some ⟨gl, 0, none⟩) j ml] 58 :: Cel gl (pc M rl) 30 :: Cel pb (cameB L) 55 :: Cel ps (sr s.D s.P) 147 :: l2) w' := by
                intro pq W0 H'
                have hc := concat_H (W := W) (l := Cel pq #[.slice (some ⟨gl, j, none⟩) (L.length - j) (ml - j), .slice (some ⟨gl, 0, none⟩) j ml] 58 :: Cel gl (pc M rl) 30 :: Cel pb (cameB L) 55 :: Cel ps (sr s.D s.P) 147 :: l2) (w := W0) pq gl j (ml - j) 0 ml (M.drop j) (M.take j) (by rw [hA, hB]; omega) (by rw [hA]; omega) (by rw [hB]; omega)
                  (fun w' h => by have := (HT.out w' h.tail).dropN j; rw [Nat.zero_add, ← List.map_drop] at this; exact this)
                  (fun w' h => by have := (HT.out w' h.tail).takeN j; rw [← List.map_take] at this; exact this)
                  (by rw [hA, hB]; exact List.mem_cons_self) H'
                rw [← List.length_append, ← HOM.out] at hc
                exact hc
              clear HT
              go_wp2_with (first
                | go_skip
                | ((with_reducible show wpList _ _ _ (_ :: _) _ _); (with_reducible apply wpl_bsOnes _ [.slice (some ⟨gl, j, none⟩) (L.length - j) (ml - j), .slice (some ⟨gl, 0, none⟩) j ml]); (· rfl); (· rfl); (· rfl); (· decide); (· decide); (· (intro v hv; simp at hv; rcases hv with rfl | rfl <;> rfl)); (· exact ⟨Tryz.underlying171, by kernel_rfl⟩); (· rfl); (· exact H); (clear H; intro pq _ H); (simp only [Act.put, List.setIfInBounds_toArray, List.set_cons_zero, List.set_cons_succ]))
                | ((with_reducible refine (CC _ _ (H.alloc _ _)).mono ?_); clear H; rintro _ _ ⟨vr, rfl, H⟩))
              rw [Exit.noGoto_ret]
              go_ret
              exact ⟨_, rfl, Heap.slide (hL.front ((((H.drop (.there .here)).drop (.there .here)).drop (.there .here)).drop (.there .here)))⟩
            · rw [orbit_out hin] at hor
              have hget : (cameB L)[a1]? = some (.bool false) := by rw [cameB_get L ha17]; simp [hin]
              have HOR := Lib.hid hor
              have HND := Lib.hid (show (L ++ [a1]).Nodup by
                rw [List.nodup_append]
                exact ⟨hnd, List.nodup_cons.2 ⟨List.not_mem_nil, List.nodup_nil⟩, fun x hx y hy e => by
                  simp at hy; subst hy; subst e; exact hin hx⟩)
              have hP := HP.out a1
              clear hor hin hnil hnd
              go_wp2_with (first
                | go_skip
                | ((with_reducible show wpList _ _ _ (_ :: _) _ _); (with_reducible apply wpl_loadCH); (· exact cell_bool); (· rfl); (· rfl); (· exact H); (· exact List.mem_cons_of_mem _ List.mem_cons_self); (· exact hget); (simp only [Act.put, List.setIfInBounds_toArray, List.set_cons_zero, List.set_cons_succ]))
                | ((with_reducible show wpList _ _ _ (_ :: _) _ _); (with_reducible apply wpl_storeBH); (· exact cell_bool); (· rfl); (· rfl); (· rfl); (· exact H); (· exact List.mem_cons_of_mem _ List.mem_cons_self); (· (rw [cameB_sz]; omega)); (· exact cameB_set _ ha17); (· exact Repl.there Repl.here); (clear H; intro _ H); (simp only [Act.put, List.setIfInBounds_toArray, List.set_cons_zero, List.set_cons_succ]))
                | ((with_reducible show wpList _ _ _ (_ :: _) _ _); (with_reducible apply wpl_bsOnes _ [.int .u8 (a1 : Int)]); (· rfl); (· rfl); (· rfl); (· decide); (· decide); (· exact pv_ones a1); (· exact bs_party); (· rfl); (· exact H); (clear H; intro pk _ H); (simp only [Act.put, List.setIfInBounds_toArray, List.set_cons_zero, List.set_cons_succ]))
                | ((with_reducible show wpList _ _ _ (_ :: _) _ _); (with_reducible apply wpl_appendH slP); (· rfl); (· rfl); (· rfl); (· rfl); (· exact H.perm (.swap _ _ _)); (· exact H.celRd List.mem_cons_self); (· rfl); (· exact pv_one a1); (· exact hq1); (· exact hq2); (clear H; intro v2 _ H); (simp only [Act.put, List.setIfInBounds_toArray, List.set_cons_zero, List.set_cons_succ]))
                | ((with_reducible show wpList _ _ _ (_ :: _) _ _); (with_reducible apply wpl_loadCH); (· exact cell_party); (· rfl); (· rfl); (· exact H); (· (repeat (first | (with_reducible exact List.mem_cons_self) | with_reducible apply List.mem_cons_of_mem))); (· exact sr_getP _ _ ha17); (simp only [Act.put, List.setIfInBounds_toArray, List.set_cons_zero, List.set_cons_succ])))
              go_roundg f
              case measure => omega
              case rel =>
                refine ⟨s.P a1, f, L ++ [a1], rfl, hP, Nat.le_refl _, ?_, HND.out, ?_, HOR.out, ?_, ?_⟩
                · rw [List.length_append, List.length_singleton]; omega
                · intro x hx
                  rcases List.mem_append.1 hx with hx | hx
                  · exact hL17 x hx
                  · rw [List.mem_singleton] at hx; subst hx; exact ha17
                · intro e; exact absurd e (by simp)
                · rw [List.length_append, List.map_append]
                  exact H.drop (.there .here)
end
end Go.Proofs.YtgobnamhdkbbeaaGreat

/- Rounds that cost less than nothing: plain laws of the search. -/
namespace Go.Proofs.YtgobnamhdkbbeaaGreat
set_option linter.unusedVariables false
set_option linter.unusedSimpArgs false
/-- What so many steps back cost. -/
def sumC (P : Nat → Nat) (C : Nat → Int) : Nat → Nat → Int
  | 0, _ => 0
  | k + 1, v => C v + sumC P C k (P v)
theorem back_add (P : Nat → Nat) : ∀ i j v, back P (i + j) v = back P j (back P i v)
  | 0, j, v => by rw [Nat.zero_add]; rfl
  | i + 1, j, v => by rw [show i + 1 + j = (i + j) + 1 by omega]; exact back_add P i j (P v)
theorem back_succ (P : Nat → Nat) (k v : Nat) : back P (k + 1) v = P (back P k v) := by rw [back_add P k 1 v]; rfl
theorem sumC_add (P : Nat → Nat) (C : Nat → Int) : ∀ i j v, sumC P C (i + j) v = sumC P C i v + sumC P C j (back P i v)
  | 0, j, v => by rw [Nat.zero_add]; simp [sumC, back]
  | i + 1, j, v => by
    rw [show i + 1 + j = (i + j) + 1 by omega]
    show C v + sumC P C (i + j) (P v) = C v + sumC P C i (P v) + sumC P C j (back P i (P v))
    rw [sumC_add P C i j (P v)]
    omega
theorem updN_same {α : Type} (d : Nat → α) (p : Nat) (v : α) : updN d p v p = v := if_pos rfl
theorem updN_ne {α : Type} (d : Nat → α) {p q : Nat} (v : α) (h : q ≠ p) : updN d p v q = d q := if_neg h
theorem upd_off {P : Nat → Nat} {C : Nat → Int} {x u : Nat} {c : Int} : ∀ k v, (∀ i, i < k → back (updN P x u) i v ≠ x) → back (updN P x u) k v = back P k v ∧ sumC (updN P x u) (updN C x c) k v = sumC P C k v
  | 0, v, _ => ⟨rfl, rfl⟩
  | k + 1, v, h => by
    have h0 : v ≠ x := h 0 (by omega)
    have hP : updN P x u v = P v := updN_ne _ _ h0
    have hC : updN C x c v = C v := updN_ne _ _ h0
    have ih := upd_off (P := P) (C := C) (x := x) (u := u) (c := c) k (P v) (fun i hi => by
      have := h (i + 1) (by omega)
      show back (updN P x u) i (P v) ≠ x
      rw [← hP]; exact this)
    constructor
    · show back (updN P x u) k (updN P x u v) = back P k (P v)
      rw [hP]; exact ih.1
    · show updN C x c v + sumC (updN P x u) (updN C x c) k (updN P x u v) = C v + sumC P C k (P v)
      rw [hP, hC, ih.2]
theorem tele {P : Nat → Nat} {D C : Nat → Int} (ht : ∀ v, P v ≠ 0 → D (P v) + C v ≤ D v) : ∀ k v, (∀ i, i < k → P (back P i v) ≠ 0) → D (back P k v) + sumC P C k v ≤ D v
  | 0, v, _ => by simp [back, sumC]
  | k + 1, v, h => by
    have h0 : P v ≠ 0 := h 0 (by omega)
    have ih := tele ht k (P v) (fun i hi => h (i + 1) (by omega))
    have := ht v h0
    show D (back P k (P v)) + (C v + sumC P C k (P v)) ≤ D v
    omega
theorem back_per {P : Nat → Nat} {k v : Nat} (h1 : 1 ≤ k) (h : back P k v = v) : ∀ i, ∃ j, j < k ∧ back P i v = back P j v
  | 0 => ⟨0, by omega, rfl⟩
  | i + 1 => by
    obtain ⟨j, hj, e⟩ := back_per h1 h i
    by_cases hl : j + 1 < k
    · exact ⟨j + 1, hl, by rw [back_succ, back_succ, e]⟩
    · exact ⟨0, by omega, by rw [back_succ, e, ← back_succ P j v, show j + 1 = k by omega, h]; rfl⟩
/-- What is known of who is ahead of whom. -/
structure Par (F : List Edg) (D : Nat → Int) (P : Nat → Nat) (C : Nat → Int) : Prop where
  root : ∀ v, P v = 0 → D v = 0
  edge : ∀ v, P v ≠ 0 → (⟨P v, v, C v⟩ : Edg) ∈ F
  tight : ∀ v, P v ≠ 0 → D (P v) + C v ≤ D v
  neg : ∀ k v, 1 ≤ k → back P k v = v → (∀ i, back P i v ≠ 0) → sumC P C k v < 0
theorem Par.step {F : List Edg} {D : Nat → Int} {P : Nat → Nat} {C : Nat → Int} (h : Par F D P C) {e : Edg} (he : e ∈ F) (hf : e.f ≠ 0) (hlt : D e.f + e.c < D e.t) :
    Par F (updN D e.t (D e.f + e.c)) (updN P e.t e.f) (updN C e.t e.c) := by
  obtain ⟨u, x, c⟩ := e
  simp only at hf hlt
  have hmono : ∀ v, updN D x (D u + c) v ≤ D v := fun v => by
    unfold updN
    split
    · rename_i e; subst e; omega
    · omega
  have cycX : (∀ i, back (updN P x u) i x ≠ 0) → ∀ j, 1 ≤ j → back (updN P x u) j x = x → sumC (updN P x u) (updN C x c) j x < 0 := by
    intro hz j
    induction j using Nat.strongRecOn with
    | ind j ih =>
      intro h1 hj
      by_cases hx : ∃ i, 1 ≤ i ∧ i < j ∧ back (updN P x u) i x = x
      · obtain ⟨i, hi1, hij, hi⟩ := hx
        have s1 := ih i hij hi1 hi
        have e2 : back (updN P x u) (j - i) x = x := by
          have := back_add (updN P x u) i (j - i) x
          rw [show i + (j - i) = j by omega, hj, hi] at this
          exact this.symm
        have s2 := ih (j - i) (by omega) (by omega) e2
        have e3 := sumC_add (updN P x u) (updN C x c) i (j - i) x
        rw [show i + (j - i) = j by omega, hi] at e3
        omega
      · obtain ⟨k, rfl⟩ : ∃ k, j = k + 1 := ⟨j - 1, by omega⟩
        have hPx : updN P x u x = u := updN_same ..
        have hCx : updN C x c x = c := updN_same ..
        have hoff : ∀ i, i < k → back (updN P x u) i u ≠ x := fun i hi e => hx ⟨i + 1, by omega, by omega, by
          show back (updN P x u) i (updN P x u x) = x
          rw [hPx]; exact e⟩
        have ho := fun i (hi : i ≤ k) => upd_off (P := P) (C := C) (x := x) (u := u) (c := c) i u (fun i' h' => hoff i' (by omega))
        have hend : back P k u = x := by
          rw [← (ho k (Nat.le_refl _)).1]
          have := hj
          rw [show back (updN P x u) (k + 1) x = back (updN P x u) k (updN P x u x) from rfl, hPx] at this
          exact this
        have ht := tele (P := P) (D := D) (C := C) h.tight k u (fun i hi => by
          rw [← (ho i (by omega)).1]
          have e1 : updN P x u (back (updN P x u) i u) = P (back (updN P x u) i u) := updN_ne _ _ (hoff i hi)
          rw [← e1, ← back_succ (updN P x u) i u]
          have := hz (i + 2)
          rw [show back (updN P x u) (i + 2) x = back (updN P x u) (i + 1) (updN P x u x) from rfl, hPx] at this
          exact this)
        rw [hend] at ht
        show updN C x c x + sumC (updN P x u) (updN C x c) k (updN P x u x) < 0
        rw [hPx, hCx, (ho k (Nat.le_refl _)).2]
        omega
  refine ⟨fun v hv => ?_, fun v hv => ?_, fun v hv => ?_, fun k v h1 hk hz => ?_⟩
  · by_cases e : v = x
    · subst e
      rw [show updN P v u v = u from updN_same ..] at hv
      exact absurd hv hf
    · rw [show updN P x u v = P v from updN_ne _ _ e] at hv
      rw [show updN D x (D u + c) v = D v from updN_ne _ _ e]
      exact h.root v hv
  · by_cases e : v = x
    · subst e
      rw [show updN P v u v = u from updN_same .., show updN C v c v = c from updN_same ..]
      exact he
    · rw [show updN P x u v = P v from updN_ne _ _ e] at hv ⊢
      rw [show updN C x c v = C v from updN_ne _ _ e]
      exact h.edge v hv
  · by_cases e : v = x
    · subst e
      rw [show updN P v u v = u from updN_same .., show updN C v c v = c from updN_same .., show updN D v (D u + c) v = D u + c from updN_same ..]
      have := hmono u
      show updN D v (D u + c) u + c ≤ D u + c
      omega
    · rw [show updN P x u v = P v from updN_ne _ _ e] at hv ⊢
      rw [show updN C x c v = C v from updN_ne _ _ e, show updN D x (D u + c) v = D v from updN_ne _ _ e]
      have := hmono (P v)
      have := h.tight v hv
      show updN D x (D u + c) (P v) + C v ≤ D v
      omega
  · show sumC (updN P x u) (updN C x c) k v < 0
    replace hk : back (updN P x u) k v = v := hk
    replace hz : ∀ i, back (updN P x u) i v ≠ 0 := hz
    by_cases hx : ∃ i, i < k ∧ back (updN P x u) i v = x
    · obtain ⟨i, hik, hi⟩ := hx
      have e1 : back (updN P x u) (k - i) x = v := by
        have := back_add (updN P x u) i (k - i) v
        rw [show i + (k - i) = k by omega, hk, hi] at this
        exact this.symm
      have e2 : back (updN P x u) k x = x := by
        have := back_add (updN P x u) (k - i) i x
        rw [show k - i + i = k by omega, e1, hi] at this
        exact this
      have s1 := sumC_add (updN P x u) (updN C x c) i (k - i) v
      have s2 := sumC_add (updN P x u) (updN C x c) (k - i) i x
      rw [show i + (k - i) = k by omega, hi] at s1
      rw [show k - i + i = k by omega, e1] at s2
      have := cycX (fun j => by have := hz (i + j); rw [back_add, hi] at this; exact this) k h1 e2
      omega
    · have hoff : ∀ i, i < k → back (updN P x u) i v ≠ x := fun i hi e => hx ⟨i, hi, e⟩
      have ho := fun i (hi : i ≤ k) => upd_off (P := P) (C := C) (x := x) (u := u) (c := c) i v (fun i' h' => hoff i' (by omega))
      rw [(ho k (Nat.le_refl _)).2]
      have hk2 : back P k v = v := by rw [← (ho k (Nat.le_refl _)).1]; exact hk
      refine h.neg k v h1 hk2 fun i => ?_
      obtain ⟨j, hj, e⟩ := back_per h1 hk2 i
      rw [e, ← (ho j (by omega)).1]
      exact hz j
/-- Walks of so many edges to whom, and what they cost. -/
inductive Wk (F : List Edg) : Nat → Nat → Int → Prop
  | nil (v : Nat) : Wk F 0 v 0
  | snoc {k u v : Nat} {w c : Int} : Wk F k u w → (⟨u, v, c⟩ : Edg) ∈ F → Wk F (k + 1) v (w + c)
section
variable {F : List Edg} {s : Srch}
theorem relax_mono (s : Srch) (e : Edg) (v : Nat) : (relax s e).D v ≤ s.D v := by
  by_cases h : s.D e.f + e.c < s.D e.t
  · rw [relax_yes h]
    show updN s.D e.t _ v ≤ _
    unfold updN
    split
    · rename_i e2; subst e2; omega
    · omega
  · rw [relax_no h]; exact Int.le_refl _
theorem relax_done (s : Srch) (e : Edg) : (relax s e).D e.t ≤ s.D e.f + e.c := by
  by_cases h : s.D e.f + e.c < s.D e.t
  · rw [relax_yes h]
    show updN s.D e.t _ e.t ≤ _
    rw [updN_same]; omega
  · rw [relax_no h]; omega
theorem fold_mono : ∀ (G : List Edg) (s : Srch) (v : Nat), (G.foldl relax s).D v ≤ s.D v
  | [], s, v => Int.le_refl _
  | e :: G, s, v => Int.le_trans (fold_mono G (relax s e) v) (relax_mono s e v)
theorem fold_done : ∀ (G : List Edg) (s : Srch) (e : Edg), e ∈ G → (G.foldl relax s).D e.t ≤ s.D e.f + e.c
  | x :: G, s, e, h => by
    rcases List.mem_cons.1 h with rfl | h
    · exact Int.le_trans (fold_mono G (relax s e) e.t) (relax_done s e)
    · have h1 := fold_done G (relax s x) e h
      have h2 := relax_mono s x e.f
      rw [List.foldl_cons]
      omega
theorem fold_par : ∀ (G : List Edg) (s : Srch), (∀ e ∈ G, e ∈ F ∧ e.f ≠ 0) → (∃ C, Par F s.D s.P C) → ∃ C, Par F (G.foldl relax s).D (G.foldl relax s).P C
  | [], s, _, h => h
  | e :: G, s, hG, h => by
    refine fold_par G (relax s e) (fun x hx => hG x (List.mem_cons_of_mem _ hx)) ?_
    obtain ⟨C, hC⟩ := h
    have he := hG e List.mem_cons_self
    by_cases hr : s.D e.f + e.c < s.D e.t
    · rw [relax_yes hr]
      exact ⟨_, hC.step he.1 he.2 hr⟩
    · rw [relax_no hr]
      exact ⟨C, hC⟩
theorem fold_last (D0 : Nat → Int) : ∀ (G : List Edg) (s : Srch), (∀ v, s.D v ≤ D0 v) → (s.last ≠ 0 → s.D s.last < D0 s.last) → ((G.foldl relax s).last ≠ 0 → (G.foldl relax s).D (G.foldl relax s).last < D0 (G.foldl relax s).last)
  | [], s, _, h => h
  | e :: G, s, hle, h => by
    refine fold_last D0 G (relax s e) (fun v => Int.le_trans (relax_mono s e v) (hle v)) ?_
    by_cases hr : s.D e.f + e.c < s.D e.t
    · rw [relax_yes hr]
      intro _
      show updN s.D e.t _ e.t < D0 e.t
      rw [updN_same]
      have := hle e.t
      omega
    · rw [relax_no hr]; exact h
theorem last_stay : ∀ (G : List Edg) (s : Srch), (∀ e ∈ G, e.t ≠ 0) → s.last ≠ 0 → (G.foldl relax s).last ≠ 0
  | [], s, _, h => h
  | e :: G, s, hG, h => by
    refine last_stay G (relax s e) (fun x hx => hG x (List.mem_cons_of_mem _ hx)) ?_
    by_cases hr : s.D e.f + e.c < s.D e.t
    · rw [relax_yes hr]; exact hG e List.mem_cons_self
    · rw [relax_no hr]; exact h
theorem fold_none : ∀ (G : List Edg) (s : Srch), (∀ e ∈ G, e.t ≠ 0) → (G.foldl relax s).last = 0 → ∀ e ∈ G, s.D e.t ≤ s.D e.f + e.c
  | x :: G, s, hG, h, e, he => by
    by_cases hr : s.D x.f + x.c < s.D x.t
    · exfalso
      rw [List.foldl_cons, relax_yes hr] at h
      exact last_stay G _ (fun y hy => hG y (List.mem_cons_of_mem _ hy)) (hG x List.mem_cons_self) h
    · rw [List.foldl_cons, relax_no hr] at h
      rcases List.mem_cons.1 he with rfl | he
      · omega
      · exact fold_none G s (fun y hy => hG y (List.mem_cons_of_mem _ hy)) h e he
theorem last_lt : ∀ (G : List Edg) (s : Srch), (∀ e ∈ G, e.t < 17) → s.last < 17 → (G.foldl relax s).last < 17
  | [], s, _, h => h
  | e :: G, s, hG, h => by
    refine last_lt G (relax s e) (fun x hx => hG x (List.mem_cons_of_mem _ hx)) ?_
    by_cases hr : s.D e.f + e.c < s.D e.t
    · rw [relax_yes hr]; exact hG e List.mem_cons_self
    · rw [relax_no hr]; exact h
/-- Edges between parties. -/
def InH (F : List Edg) : Prop := ∀ e ∈ F, 1 ≤ e.f ∧ e.f ≤ 16 ∧ 1 ≤ e.t ∧ e.t ≤ 16
/-- Behind so many times. -/
structure InvL (F : List Edg) (j : Nat) (s : Srch) : Prop where
  lt : s.last < 17
  low : ∀ k v w, k ≤ j → Wk F k v w → s.D v ≤ w
  par : ∃ C, Par F s.D s.P C
  last : j ≠ 0 → s.last ≠ 0 ∧ ∃ D0 : Nat → Int, (∀ k v w, k + 1 ≤ j → Wk F k v w → D0 v ≤ w) ∧ s.D s.last < D0 s.last
theorem InvL.zero : InvL F 0 zeroS := by
  refine ⟨(by decide : (0 : Nat) < 17), fun k v w hk hw => ?_, ⟨fun _ => 0, ⟨fun v _ => rfl, fun v h => absurd rfl h, fun v h => absurd rfl h, fun k v h1 hk hz => absurd rfl (hz 1)⟩⟩, fun h => absurd rfl h⟩
  cases hw with
  | nil => exact Int.le_refl _
  | snoc _ _ => omega
theorem InvL.step {j : Nat} (hF : InH F) (h : InvL F j s) (hl : (onceS F s).last ≠ 0) : InvL F (j + 1) (onceS F s) := by
  refine ⟨last_lt F ⟨s.D, s.P, 0⟩ (fun e he => by have := hF e he; omega) (by decide : (0 : Nat) < 17), fun k v w hk hw => ?_, ?_, fun _ => ⟨hl, s.D, fun k v w hk hw => h.low k v w (by omega) hw, ?_⟩⟩
  · cases hw with
    | nil =>
      have h1 := fold_mono F ⟨s.D, s.P, 0⟩ v
      have h2 := h.low 0 v 0 (by omega) (.nil v)
      exact Int.le_trans h1 h2
    | @snoc k u v w c hw he =>
      have h1 := fold_done F ⟨s.D, s.P, 0⟩ ⟨u, v, c⟩ he
      have h2 := h.low k u w (by omega) hw
      have h3 : (onceS F s).D v ≤ s.D u + c := h1
      omega
  · exact fold_par F ⟨s.D, s.P, 0⟩ (fun e he => ⟨he, by have := hF e he; omega⟩) h.par
  · exact fold_last s.D F ⟨s.D, s.P, 0⟩ (fun v => Int.le_refl _) (fun h => absurd rfl h) hl
theorem run_some (hF : InH F) : ∀ (n j : Nat) (s r : Srch), InvL F j s → runS F n s = some r → InvL F (j + n) r
  | 0, j, s, r, h, e => by
    rw [runS] at e
    cases e; exact h
  | n + 1, j, s, r, h, e => by
    by_cases hl : (onceS F s).last = 0
    · rw [runS_no hl] at e; cases e
    · rw [runS, if_neg hl] at e
      have := run_some hF n (j + 1) _ r (h.step hF hl) e
      rwa [show j + 1 + n = j + (n + 1) by omega] at this
theorem bnd_fold {B : Nat} : ∀ (G : List Edg) (s : Srch) (B : Nat), (∀ e ∈ G, -128 ≤ e.c) → Bnd B s → Bnd (B + 128 * G.length) (G.foldl relax s)
  | [], s, B, _, h => h
  | e :: G, s, B, hG, h => by
    have := bnd_fold (B := B) G (relax s e) (B + 128) (fun x hx => hG x (List.mem_cons_of_mem _ hx)) (Bnd.relax (e := e) h (hG e List.mem_cons_self))
    rw [List.length_cons, show B + 128 * (G.length + 1) = B + 128 + 128 * G.length by omega]
    exact this
theorem run_none (hF : ∀ e ∈ F, e.t ≠ 0 ∧ -128 ≤ e.c) : ∀ (n : Nat) (s : Srch) (B : Nat), Bnd B s → runS F n s = none → ∃ D : Nat → Int, (∀ i, -((B + 128 * F.length * n : Nat) : Int) ≤ D i ∧ D i ≤ 0) ∧ ∀ e ∈ F, D e.t ≤ D e.f + e.c
  | 0, s, B, h, e => by rw [runS] at e; cases e
  | n + 1, s, B, h, e => by
    by_cases hl : (onceS F s).last = 0
    · refine ⟨s.D, fun i => ?_, fold_none F ⟨s.D, s.P, 0⟩ (fun e he => (hF e he).1) hl⟩
      have := h i
      refine ⟨?_, this.2⟩
      have h2 : B ≤ B + 128 * F.length * (n + 1) := Nat.le_add_right ..
      omega
    · rw [runS, if_neg hl] at e
      obtain ⟨D, h1, h2⟩ := run_none hF n _ (B + 128 * F.length) (bnd_fold (B := B) F ⟨s.D, s.P, 0⟩ B (fun e he => (hF e he).2) h) e
      refine ⟨D, fun i => ?_, h2⟩
      have := h1 i
      rwa [show B + 128 * F.length + 128 * F.length * n = B + 128 * F.length * (n + 1) by rw [Nat.mul_add]; omega] at this
end
end Go.Proofs.YtgobnamhdkbbeaaGreat
