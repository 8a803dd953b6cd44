/- slices.Grow, slices.Concat of parties. -/
import Derived.Test.YtglehneaphigdaaReverse
import Derived.Test.YtglehneaphigdaaDelete
import Derived.Lib.AppendZeros
namespace Go.Proofs.Ytglehneaphigdaa
open Go.RowKit
set_option linter.unusedSimpArgs false
set_option linter.unusedVariables false
theorem wpl_growNil {ops : Array Oper} {rest : List Oper} {o : Oper} {a : Act} {w W : World} {l : List Thing} {Q : Exit → Act → World → Prop} {t tn e size bytes : Nat} {z : Value} (T : SlTy Try.prog t e size bytes z) {kn : IntKind} (htn : Try.prog.underlying tn = some (.int kn)) (hgd : o.guard = none) {s x : Operand}
    (ho : o.op = .call { callee := .builtin .append, args := #[s, x], argTypes := #[t, tn] }) {k : IntKind} {n : Nat} (hs : a.eval s = .slice none 0 0) (hx : a.eval x = .int k (n : Int)) (h0 : 0 < n) (hn : n ≤ 65536) (hb : n * bytes ≤ 281474976710656)
    (H : Heap W l w) (h : ∀ g m cs w', n ≤ m → m ≤ maxLen → cs.size = m * size → Heap W (Cel g cs e :: l) w' → wpList Try.prog ops Q rest (a.put o.dst (.slice (some ⟨g, 0, none⟩) n m)) w') : wpList Try.prog ops Q (o :: rest) a w := by
  obtain ⟨i, hi, hz, hsi, hbi⟩ := T.inf
  subst hsi hbi
  have hr := Lib.run_append_nil_zeros (P := Try.prog) w t tn o.type e i z k kn T.und htn hi hz n h0 T.pos (by omega) hb
  refine Lib.wpList_append_run w hgd s x t tn ho _ _ hs hx _ _ hr ?_
  have hge := grownCap_ge w n 0 e
  have hle := grownCap_le_maxLen w n 0 e (by unfold maxLen; omega)
  refine h _ _ _ _ hge hle ?_ (H.drew.alloc _ _)
  rw [Array.size_append, size_zeroCells, size_zeroCells, T.zc, ← Nat.add_mul, Nat.add_sub_cancel' hge]
section
variable {W w : World} {l : List Thing}
set_option maxRecDepth 100000
set_option maxHeartbeats 2000000
theorem grow_H (n : Nat) (h0 : 1 ≤ n) (hn : n ≤ 65536) (H : Heap W l w) :
    Calls Try.prog 70 #[.slice none 0 0, .int .i64 (n : Int)] w fun e w' => ∃ v, e = .returned v ∧ Heap W (RowT 33 1 v 0 [] :: l) w' := by
  go_enter Try.func70, Try.ntmps70
  have ht : Try.prog.underlying 3 = some (.int .i64) := Try.underlying3
  go_wp2_with (first
    | go_skip
    | ((with_reducible show wpList _ _ _ (_ :: _) _ _); (with_reducible apply wpl_growNil slP); (· exact ht); (· rfl); (· rfl); (· rfl); (· rfl); (· exact h0); (· exact hn); (· omega); (· exact H); (clear H; intro g m cs _ hm1 hm2 hcs H); (simp only [Act.put, List.setIfInBounds_toArray, List.set_cons_zero, List.set_cons_succ])))
  go_ret
  exact ⟨_, rfl, H.celRow (n := 0) (m := m) hcs (Nat.zero_le _) hm2⟩
theorem cell_parties : CellTy 67 := ⟨⟨_, Try.underlying67, rfl⟩, by kernel_rfl⟩
theorem pv_ones_all (L : List Nat) : OneCells (L.map pv) := by
  intro u hu
  obtain ⟨x, _, rfl⟩ := List.mem_map.1 hu
  rfl
def pick2 {α : Type} (k : Nat) (x y z : α) : α := if k = 0 then x else if k = 1 then y else z
structure CatLoop (W : World) (l : List Thing) (A B : List Nat) (vs vi : Value) (wr : World) : Prop where
  out : ∃ k : Nat, k ≤ 2 ∧ vi = .int .i64 (k : Int) ∧ Heap W (RowT 33 1 vs (pick2 k 0 A.length (A.length + B.length)) ((pick2 k [] A (A ++ B)).map pv) :: l) wr
structure LenLoop (W : World) (l : List Thing) (A B : List Nat) (vs vi : Value) (wr : World) : Prop where
  out : ∃ k : Nat, k ≤ 2 ∧ vi = .int .i64 (k : Int) ∧ vs = .int .i64 ((pick2 k 0 A.length (A.length + B.length) : Nat) : Int) ∧ Heap W l wr
theorem concat_H (q g oa ca ob cb : Nat) (A B : List Nat) (h0 : 1 ≤ A.length + B.length) (hA : A.length ≤ 1000) (hB : B.length ≤ 1000) (RA : ∀ w', Heap W l w' → Rd w' (some ⟨g, oa, none⟩) (A.map pv)) (RB : ∀ w', Heap W l w' → Rd w' (some ⟨g, ob, none⟩) (B.map pv))
    (m : Cel q #[.slice (some ⟨g, oa, none⟩) A.length ca, .slice (some ⟨g, ob, none⟩) B.length cb] 67 ∈ l) (H : Heap W l w) :
    Calls Try.prog 62 #[.slice (some ⟨q, 0, none⟩) 2 2] w fun e w' => ∃ v, e = .returned v ∧ Heap W (RowT 33 1 v (A.length + B.length) ((A ++ B).map pv) :: l) w' := by
  have HRA := Lib.hid RA
  have HRB := Lib.hid RB
  clear RA RB
  have hG := fun (W0 : World) (H : Heap W l W0) => grow_H (W := W) (l := l) (w := W0) (A.length + B.length) h0 (by omega) H
  rw [Int.natCast_add] at hG
  go_enter Try.func62, Try.ntmps62
  go_wp2_with (go_skip)
  have H0 := H
  clear H
  go_loopw [3, 11] (fun vs vi wr => LenLoop W l A B vs vi wr) (fun _ vi _ => 2 - (intOf vi).toNat)
  case atStart => exact ⟨0, by omega, rfl, rfl, H0⟩
  case round =>
    obtain ⟨k, hk, rfl, rfl, H'⟩ := hrel.out
    clear H0 hrel
    have H := H'
    clear H'
    by_cases hk0 : k = 0
    · subst hk0
      simp only [pick2, if_true]
      go_wp2_with (first
        | go_skip
        | ((with_reducible show wpList _ _ _ (_ :: _) _ _); (with_reducible apply wpl_loadCH); (· exact cell_parties); (· rfl); (· rfl); (· exact H); (· exact m); (· rfl); (simp only [Act.put, List.setIfInBounds_toArray, List.set_cons_zero, List.set_cons_succ])))
      refine ⟨⟨1, by omega, rfl, ?_, H⟩, ?measure⟩
      · simp [pick2]
      case measure => simp [intOf]
    · by_cases hk1 : k = 1
      · subst hk1
        have e1 : pick2 1 0 A.length (A.length + B.length) = A.length := rfl
        rw [e1]
        go_wp2_with (first
          | go_skip
          | ((with_reducible show wpList _ _ _ (_ :: _) _ _); (with_reducible apply wpl_loadCH); (· exact cell_parties); (· rfl); (· rfl); (· exact H); (· exact m); (· rfl); (simp only [Act.put, List.setIfInBounds_toArray, List.set_cons_zero, List.set_cons_succ])))
        refine ⟨⟨2, by omega, rfl, ?_, H⟩, ?measure2⟩
        · simp [pick2]
        case measure2 => simp [intOf]
      · obtain rfl : k = 2 := by omega
        have e2 : pick2 2 0 A.length (A.length + B.length) = A.length + B.length := rfl
        rw [e2]
        go_wp2_with (first
          | go_skip
          | ((with_reducible refine (hG _ H).mono ?_); clear H; rintro _ _ ⟨v0, rfl, H⟩))
        have H0 := H
        clear H hG
        go_loopw [6, 27] (fun vs vi wr => CatLoop W l A B vs vi wr) (fun _ vi _ => 2 - (intOf vi).toNat)
        case atStart => exact ⟨0, by omega, rfl, H0⟩
        case round =>
          obtain ⟨k, hk, rfl, H'⟩ := hrel.out
          clear H0 hrel
          have H := H'
          clear H'
          have hA0 : 0 + A.length ≤ maxLen := by unfold maxLen; omega
          have hA1 : (0 + A.length) * 1 ≤ 140737488355328 := by omega
          have hB0 : A.length + B.length ≤ maxLen := by unfold maxLen; omega
          have hB1 : (A.length + B.length) * 1 ≤ 140737488355328 := by omega
          have hA2 : (A.map pv).length = A.length * 1 := by simp
          have hB2 : (B.map pv).length = B.length * 1 := by simp
          by_cases hk0 : k = 0
          · subst hk0
            go_wp2_with (first
              | go_skip
              | ((with_reducible show wpList _ _ _ (_ :: _) _ _); (with_reducible apply wpl_loadCH); (· exact cell_parties); (· rfl); (· rfl); (· exact H); (· exact List.mem_cons_of_mem _ m); (· rfl); (simp only [Act.put, List.setIfInBounds_toArray, List.set_cons_zero, List.set_cons_succ]))
              | ((with_reducible show wpList _ _ _ (_ :: _) _ _); (with_reducible apply wpl_appendH slP); (· rfl); (· rfl); (· rfl); (· rfl); (· exact H); (· exact HRA.out _ H.tail); (· exact hA2); (· exact pv_ones_all A); (· exact hA0); (· exact hA1); (clear H; intro v2 _ H); (simp only [Act.put, List.setIfInBounds_toArray, List.set_cons_zero, List.set_cons_succ])))
            refine ⟨⟨1, by omega, rfl, ?_⟩, ?measure⟩
            · have e : pick2 0 0 A.length (A.length + B.length) + A.length = A.length := by simp [pick2]
              rw [e] at H
              exact H
            case measure => simp [intOf]
          · by_cases hk1 : k = 1
            · subst hk1
              go_wp2_with (first
                | go_skip
                | ((with_reducible show wpList _ _ _ (_ :: _) _ _); (with_reducible apply wpl_loadCH); (· exact cell_parties); (· rfl); (· rfl); (· exact H); (· exact List.mem_cons_of_mem _ m); (· rfl); (simp only [Act.put, List.setIfInBounds_toArray, List.set_cons_zero, List.set_cons_succ]))
                | ((with_reducible show wpList _ _ _ (_ :: _) _ _); (with_reducible apply wpl_appendH slP); (· rfl); (· rfl); (· rfl); (· rfl); (· exact H); (· exact HRB.out _ H.tail); (· exact hB2); (· exact pv_ones_all B); (· exact hB0); (· exact hB1); (clear H; intro v2 _ H); (simp only [Act.put, List.setIfInBounds_toArray, List.set_cons_zero, List.set_cons_succ])))
              refine ⟨⟨2, by omega, rfl, ?_⟩, ?measure2⟩
              · have e : (pick2 2 [] A (A ++ B)).map pv = (pick2 1 [] A (A ++ B)).map pv ++ B.map pv := by simp [pick2]
                rw [e]
                exact H
              case measure2 => simp [intOf]
            · obtain rfl : k = 2 := by omega
              go_wp2_with (go_skip)
              go_ret
              exact ⟨_, rfl, H⟩
end
end Go.Proofs.Ytglehneaphigdaa
