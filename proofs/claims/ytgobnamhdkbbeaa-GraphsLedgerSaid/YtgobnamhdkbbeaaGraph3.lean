/- graphs.New: of edges. -/
import Derived.Test.YtgobnamhdkbbeaaGraph2
import Derived.Test.YtgobnamhdkbbeaaHeapMore
namespace Go.Proofs.Ytgobnamhdkbbeaa
open Go.RowKit
set_option linter.unusedSimpArgs false
set_option linter.unusedVariables false
/-- A flow: from, to, how much. -/
structure Flw where
  f : Nat
  t : Nat
  n : Int
def flwV (x : Flw) : List Value := [.int .u8 (x.f : Int), .int .u8 (x.t : Int), .int .i64 x.n]
def flwL (F : List Flw) : List Value := F.flatMap flwV
theorem flwL_len (F : List Flw) : (flwL F).length = F.length * 3 := by
  induction F with
  | nil => rfl
  | cons x F ih => simp only [flwL, List.flatMap_cons, List.length_append] at *; rw [ih]; simp [flwV, Nat.add_mul]; omega
theorem flwL_at (F : List Flw) (i : Nat) (h : i < F.length) : ((flwL F).drop (i * 3)).take 3 = flwV F[i] := by
  induction F generalizing i with
  | nil => simp at h
  | cons x F ih =>
    rcases i with _ | i
    · simp [flwL, flwV]
    · have : (i + 1) * 3 = 3 + i * 3 := by omega
      rw [this, ← List.drop_drop]
      simp only [List.length_cons] at h
      have := ih i (by omega)
      simpa [flwL, flwV] using this
/-- Such as can be: numbers of their types. -/
def FlwOk (x : Flw) : Prop := x.f ≤ 255 ∧ x.t ≤ 255 ∧ -9223372036854775808 ≤ x.n ∧ x.n ≤ 9223372036854775807
def flow (f : Int) (t : Int) (n : Int) : Array Value := #[.int .u8 f, .int .u8 t, .int .i64 n]
section
variable (f : Int) (t : Int) (n : Int)
theorem flow_sz : (flow f t n).size = 3 := rfl
theorem flow_g0 : (flow f t n)[0]? = some (.int .u8 f) := rfl
theorem flow_s0 (v : Int) : (flow f t n).setIfInBounds 0 (.int .u8 v) = flow v t n := rfl
theorem flow_g1 : (flow f t n)[1]? = some (.int .u8 t) := rfl
theorem flow_s1 (v : Int) : (flow f t n).setIfInBounds 1 (.int .u8 v) = flow f v n := rfl
theorem flow_g2 : (flow f t n)[2]? = some (.int .i64 n) := rfl
theorem flow_s2 (v : Int) : (flow f t n).setIfInBounds 2 (.int .i64 v) = flow f t v := rfl
end
theorem flow_all (f t n : Int) : (flow f t n).extract 0 (0 + 3) = flow f t n := by simp [flow]
theorem flow_cells (f t n : Int) : Cells 3 (flow f t n) := ⟨rfl, by simp [flow, Value.oneCell']⟩
theorem flow_splice (a b c f t n : Int) : splice (flow a b c) 0 (flow f t n) = flow f t n := splice_all rfl
theorem row_flow : RowTy 32 3 (flow 0 0 0) := ⟨⟨_, Try.underlying32, rfl⟩, by kernel_rfl, by kernel_rfl⟩
/-- May an edge be, by itself? -/
def edgeB (x : Flw) : Bool := mayP x.f && mayP x.t && (x.f != x.t) && decide (0 ≤ x.n) && decide (x.n ≤ 2199023255552)
/-- The capacities of edges; none, if they may not be. -/
def newS : List Flw → (Nat → Nat → Bool) → Caps → Option Caps
  | [], _, c => some c
  | x :: xs, t, c => if edgeB x && !t x.f x.t then newS xs (upd2 t x.f x.t true) (upd2 c x.f x.t x.n) else none
def newG (F : List Flw) : Option Caps := newS F (fun _ _ => false) zeroC
/-- What New answers. -/
def NewPost (W : World) (l : List Thing) (r : Option Caps) (e : Ending) (w' : World) : Prop := match r with
  | some c => ∃ p, e = .returned (.tuple #[.pointer (some ⟨p, 0, none⟩), .int .i64 0]) ∧ Heap W (Gr p c :: l) w'
  | none => e = .returned (.tuple #[.pointer none, .int .i64 1]) ∧ Heap W l w'
theorem NewPost.no {W : World} {l : List Thing} {w' : World} (h : Heap W l w') : NewPost W l none (.returned (.tuple #[.pointer none, .int .i64 1])) w' := ⟨rfl, h⟩
theorem NewPost.yes {W : World} {l : List Thing} {w' : World} {c : Caps} (p : Nat) (h : Heap W (Gr p c :: l) w') : NewPost W l (some c) (.returned (.tuple #[.pointer (some ⟨p, 0, none⟩), .int .i64 0])) w' := ⟨p, rfl, h⟩
theorem newS_no {x : Flw} {xs : List Flw} {t : Nat → Nat → Bool} {c : Caps} (h : (edgeB x && !t x.f x.t) = false) : newS (x :: xs) t c = none := by
  rw [newS, if_neg (by rw [h]; exact Bool.false_ne_true)]
theorem newS_yes {x : Flw} {xs : List Flw} {t : Nat → Nat → Bool} {c : Caps} (h : (edgeB x && !t x.f x.t) = true) : newS (x :: xs) t c = newS xs (upd2 t x.f x.t true) (upd2 c x.f x.t x.n) := by
  rw [newS, if_pos h]
theorem zero_gr : Try.zeroCells99.setIfInBounds 289 (.bool true) = gr zeroC true := by kernel_rfl
section
variable {W w : World} {l : List Thing}
set_option maxRecDepth 100000
set_option maxHeartbeats 4000000
theorem new_H (ea : Option Addr) (en ec : Nat) (F : List Flw) (hl : F.length = en) (hm : en ≤ 9223372036854775807) (hF : ∀ x ∈ F, FlwOk x) (R : ∀ w', Heap W l w' → Rd w' ea (flwL F)) (H : Heap W l w) :
    Calls Try.prog 49 #[.slice ea en ec] w (NewPost W l (newG F)) := by
  have HL := Lib.hid hl
  have HF := Lib.hid hF
  have HR := Lib.hid R
  clear hl hF R
  go_enter Try.func49, Try.ntmps49
  go_wp2_with (first
    | go_skip
    | ((with_reducible show wpList _ _ _ (_ :: _) _ _); (with_reducible apply wpl_boxRH); (· rfl); (· rfl); (· exact H); (clear H; intro p _ H); (simp only [Act.put, List.setIfInBounds_toArray, List.set_cons_zero, List.set_cons_succ]))
    | ((with_reducible show wpList _ _ _ (_ :: _) _ _); (with_reducible apply wpl_allocRH row_matB); (· rfl); (· exact H); (clear H; intro pt _ H); (simp only [Act.put, List.setIfInBounds_toArray, List.set_cons_zero, List.set_cons_succ])))
  rw [zero_gr] at H
  have hstart : newG F = newS (F.drop 0) (fun _ _ => false) zeroC := rfl
  go_loopw [12] (fun i wr => ∃ (k : Nat) (t : Nat → Nat → Bool) (c : Caps), k ≤ en ∧ i = .int .i64 k ∧ newG F = newS (F.drop k) t c ∧ Heap W (Cel pt (matB t) 143 :: Gr p c :: l) wr) (fun i _ => en - (intOf i).toNat)
  case atStart => exact ⟨0, _, _, Nat.zero_le _, rfl, hstart, H⟩
  case round =>
    obtain ⟨k, t, c, hk, rfl, hG, H'⟩ := hrel
    clear H hstart
    have H := H'
    clear H'
    by_cases hlt : k < en
    · have hkF : k < F.length := by rw [HL.out]; exact hlt
      have hok := HF.out F[k] (List.getElem_mem hkF)
      have hat := flwL_at F k hkF
      have hlen : k * 3 + 3 ≤ (flwL F).length := by rw [flwL_len]; omega
      rw [List.drop_eq_getElem_cons hkF] at hG
      generalize F[k] = x at *
      obtain ⟨a, b, n⟩ := x
      obtain ⟨h1, h2, h3, h4⟩ := hok
      simp only at h1 h2 h3 h4
      have hrow : (((flwL F).drop (k * 3)).take 3).toArray = flow a b n := by rw [hat]; rfl
      obtain ⟨eb, eo, rfl, _⟩ := (HR.out _ H.tail.tail).lt (by omega)
      have m1 := may_ans a h1
      have m2 := may_ans b h2
      have HG := Lib.hid hG
      clear hG hat hkF
      cases e1 : mayP a
      · rw [e1] at m1
        have E1 := Lib.hid e1
        clear e1
        go_wp2_with (first
          | go_skip
          | ((with_reducible show wpList _ _ _ (_ :: _) _ _); (with_reducible apply wpl_loadRdR row_flow); (· rfl); (· rfl); (· exact HR.out _ H.tail.tail); (· rfl); (· exact hlen); (· decide); (· exact hrow); (simp only [Act.put, List.setIfInBounds_toArray, List.set_cons_zero, List.set_cons_succ]))
          | ((with_reducible show wpList _ _ _ (_ :: _) _ _); (with_reducible apply wpl_allocRH row_flow); (· rfl); (· exact H); (clear H; intro px _ H); (simp only [Act.put, List.setIfInBounds_toArray, List.set_cons_zero, List.set_cons_succ]))
          | ((with_reducible show wpList _ _ _ (_ :: _) _ _); (with_reducible apply wpl_storeRH row_flow); (· rfl); (· rfl); (· rfl); (· with_reducible exact flow_cells ..); (· exact H); (· (repeat (first | (with_reducible exact List.mem_cons_self) | with_reducible apply List.mem_cons_of_mem))); (· (simp only [flow_sz, Nat.reduceAdd, Nat.reduceLeDiff, Nat.le_refl]; done)); (· with_reducible exact flow_splice ..); (· (repeat (first | (with_reducible exact Repl.here) | with_reducible apply Repl.there))); (clear H; intro _ H); (simp only [Act.put, List.setIfInBounds_toArray, List.set_cons_zero, List.set_cons_succ]))
          | ((with_reducible show wpList _ _ _ (_ :: _) _ _); (with_reducible apply wpl_loadCH); (· first | exact cell_party | exact cell_i64); (· rfl); (· rfl); (· exact H); (· (repeat (first | (with_reducible exact List.mem_cons_self) | with_reducible apply List.mem_cons_of_mem))); (· (with_reducible first | exact flow_g0 .. | exact flow_g1 .. | exact flow_g2 ..)); (simp only [Act.put, List.setIfInBounds_toArray, List.set_cons_zero, List.set_cons_succ]))
          | ((with_reducible refine Ans.callH (by assumption) H ?_); clear H; intro _ H))
        rw [HG.out, newS_no (by simp [edgeB, E1.out])]
        go_ret2
        exact NewPost.no H.tail.tail.tail
      · rw [e1] at m1
        have E1 := Lib.hid e1
        have a1 : a < 17 := by have := mayP_true e1; omega
        clear e1
        cases e2 : mayP b
        · rw [e2] at m2
          have E2 := Lib.hid e2
          clear e2
          go_wp2_with (first
            | go_skip
            | ((with_reducible show wpList _ _ _ (_ :: _) _ _); (with_reducible apply wpl_loadRdR row_flow); (· rfl); (· rfl); (· exact HR.out _ H.tail.tail); (· rfl); (· exact hlen); (· decide); (· exact hrow); (simp only [Act.put, List.setIfInBounds_toArray, List.set_cons_zero, List.set_cons_succ]))
            | ((with_reducible show wpList _ _ _ (_ :: _) _ _); (with_reducible apply wpl_allocRH row_flow); (· rfl); (· exact H); (clear H; intro px _ H); (simp only [Act.put, List.setIfInBounds_toArray, List.set_cons_zero, List.set_cons_succ]))
            | ((with_reducible show wpList _ _ _ (_ :: _) _ _); (with_reducible apply wpl_storeRH row_flow); (· rfl); (· rfl); (· rfl); (· with_reducible exact flow_cells ..); (· exact H); (· (repeat (first | (with_reducible exact List.mem_cons_self) | with_reducible apply List.mem_cons_of_mem))); (· (simp only [flow_sz, Nat.reduceAdd, Nat.reduceLeDiff, Nat.le_refl]; done)); (· with_reducible exact flow_splice ..); (· (repeat (first | (with_reducible exact Repl.here) | with_reducible apply Repl.there))); (clear H; intro _ H); (simp only [Act.put, List.setIfInBounds_toArray, List.set_cons_zero, List.set_cons_succ]))
            | ((with_reducible show wpList _ _ _ (_ :: _) _ _); (with_reducible apply wpl_loadCH); (· first | exact cell_party | exact cell_i64); (· rfl); (· rfl); (· exact H); (· (repeat (first | (with_reducible exact List.mem_cons_self) | with_reducible apply List.mem_cons_of_mem))); (· (with_reducible first | exact flow_g0 .. | exact flow_g1 .. | exact flow_g2 ..)); (simp only [Act.put, List.setIfInBounds_toArray, List.set_cons_zero, List.set_cons_succ]))
            | ((with_reducible refine Ans.callH (by assumption) H ?_); clear H; intro _ H))
          rw [HG.out, newS_no (by simp [edgeB, E2.out])]
          go_ret2
          exact NewPost.no H.tail.tail.tail
        · rw [e2] at m2
          have E2 := Lib.hid e2
          have b1 : b < 17 := by have := mayP_true e2; omega
          clear e2
          by_cases e3 : a = b
          · subst e3
            go_wp2_with (first
              | go_skip
              | ((with_reducible show wpList _ _ _ (_ :: _) _ _); (with_reducible apply wpl_loadRdR row_flow); (· rfl); (· rfl); (· exact HR.out _ H.tail.tail); (· rfl); (· exact hlen); (· decide); (· exact hrow); (simp only [Act.put, List.setIfInBounds_toArray, List.set_cons_zero, List.set_cons_succ]))
              | ((with_reducible show wpList _ _ _ (_ :: _) _ _); (with_reducible apply wpl_allocRH row_flow); (· rfl); (· exact H); (clear H; intro px _ H); (simp only [Act.put, List.setIfInBounds_toArray, List.set_cons_zero, List.set_cons_succ]))
              | ((with_reducible show wpList _ _ _ (_ :: _) _ _); (with_reducible apply wpl_storeRH row_flow); (· rfl); (· rfl); (· rfl); (· with_reducible exact flow_cells ..); (· exact H); (· (repeat (first | (with_reducible exact List.mem_cons_self) | with_reducible apply List.mem_cons_of_mem))); (· (simp only [flow_sz, Nat.reduceAdd, Nat.reduceLeDiff, Nat.le_refl]; done)); (· with_reducible exact flow_splice ..); (· (repeat (first | (with_reducible exact Repl.here) | with_reducible apply Repl.there))); (clear H; intro _ H); (simp only [Act.put, List.setIfInBounds_toArray, List.set_cons_zero, List.set_cons_succ]))
              | ((with_reducible show wpList _ _ _ (_ :: _) _ _); (with_reducible apply wpl_loadCH); (· first | exact cell_party | exact cell_i64); (· rfl); (· rfl); (· exact H); (· (repeat (first | (with_reducible exact List.mem_cons_self) | with_reducible apply List.mem_cons_of_mem))); (· (with_reducible first | exact flow_g0 .. | exact flow_g1 .. | exact flow_g2 ..)); (simp only [Act.put, List.setIfInBounds_toArray, List.set_cons_zero, List.set_cons_succ]))
              | ((with_reducible refine Ans.callH (by assumption) H ?_); clear H; intro _ H))
            rw [HG.out, newS_no (by simp [edgeB, E1.out])]
            go_ret2
            exact NewPost.no H.tail.tail.tail
          · have e3' : ((a : Int) == (b : Int)) = false := by simp; omega
            have e3'' : (a == b) = false := by simpa using e3
            have E3 := Lib.hid e3
            clear e3
            by_cases e4 : n < 0
            · skip
              go_wp2_with (first
                | go_skip
                | ((with_reducible show wpList _ _ _ (_ :: _) _ _); (with_reducible apply wpl_loadRdR row_flow); (· rfl); (· rfl); (· exact HR.out _ H.tail.tail); (· rfl); (· exact hlen); (· decide); (· exact hrow); (simp only [Act.put, List.setIfInBounds_toArray, List.set_cons_zero, List.set_cons_succ]))
                | ((with_reducible show wpList _ _ _ (_ :: _) _ _); (with_reducible apply wpl_allocRH row_flow); (· rfl); (· exact H); (clear H; intro px _ H); (simp only [Act.put, List.setIfInBounds_toArray, List.set_cons_zero, List.set_cons_succ]))
                | ((with_reducible show wpList _ _ _ (_ :: _) _ _); (with_reducible apply wpl_storeRH row_flow); (· rfl); (· rfl); (· rfl); (· with_reducible exact flow_cells ..); (· exact H); (· (repeat (first | (with_reducible exact List.mem_cons_self) | with_reducible apply List.mem_cons_of_mem))); (· (simp only [flow_sz, Nat.reduceAdd, Nat.reduceLeDiff, Nat.le_refl]; done)); (· with_reducible exact flow_splice ..); (· (repeat (first | (with_reducible exact Repl.here) | with_reducible apply Repl.there))); (clear H; intro _ H); (simp only [Act.put, List.setIfInBounds_toArray, List.set_cons_zero, List.set_cons_succ]))
                | ((with_reducible show wpList _ _ _ (_ :: _) _ _); (with_reducible apply wpl_loadCH); (· first | exact cell_party | exact cell_i64); (· rfl); (· rfl); (· exact H); (· (repeat (first | (with_reducible exact List.mem_cons_self) | with_reducible apply List.mem_cons_of_mem))); (· (with_reducible first | exact flow_g0 .. | exact flow_g1 .. | exact flow_g2 ..)); (simp only [Act.put, List.setIfInBounds_toArray, List.set_cons_zero, List.set_cons_succ]))
                | ((with_reducible refine Ans.callH (by assumption) H ?_); clear H; intro _ H))
              rw [HG.out, newS_no (by simp [edgeB, show ¬ 0 ≤ n by omega])]
              go_ret2
              exact NewPost.no H.tail.tail.tail
            · by_cases e5 : 2199023255552 < n
              · skip
                go_wp2_with (first
                  | go_skip
                  | ((with_reducible show wpList _ _ _ (_ :: _) _ _); (with_reducible apply wpl_loadRdR row_flow); (· rfl); (· rfl); (· exact HR.out _ H.tail.tail); (· rfl); (· exact hlen); (· decide); (· exact hrow); (simp only [Act.put, List.setIfInBounds_toArray, List.set_cons_zero, List.set_cons_succ]))
                  | ((with_reducible show wpList _ _ _ (_ :: _) _ _); (with_reducible apply wpl_allocRH row_flow); (· rfl); (· exact H); (clear H; intro px _ H); (simp only [Act.put, List.setIfInBounds_toArray, List.set_cons_zero, List.set_cons_succ]))
                  | ((with_reducible show wpList _ _ _ (_ :: _) _ _); (with_reducible apply wpl_storeRH row_flow); (· rfl); (· rfl); (· rfl); (· with_reducible exact flow_cells ..); (· exact H); (· (repeat (first | (with_reducible exact List.mem_cons_self) | with_reducible apply List.mem_cons_of_mem))); (· (simp only [flow_sz, Nat.reduceAdd, Nat.reduceLeDiff, Nat.le_refl]; done)); (· with_reducible exact flow_splice ..); (· (repeat (first | (with_reducible exact Repl.here) | with_reducible apply Repl.there))); (clear H; intro _ H); (simp only [Act.put, List.setIfInBounds_toArray, List.set_cons_zero, List.set_cons_succ]))
                  | ((with_reducible show wpList _ _ _ (_ :: _) _ _); (with_reducible apply wpl_loadCH); (· first | exact cell_party | exact cell_i64); (· rfl); (· rfl); (· exact H); (· (repeat (first | (with_reducible exact List.mem_cons_self) | with_reducible apply List.mem_cons_of_mem))); (· (with_reducible first | exact flow_g0 .. | exact flow_g1 .. | exact flow_g2 ..)); (simp only [Act.put, List.setIfInBounds_toArray, List.set_cons_zero, List.set_cons_succ]))
                  | ((with_reducible refine Ans.callH (by assumption) H ?_); clear H; intro _ H))
                rw [HG.out, newS_no (by simp [edgeB, show ¬ n ≤ 2199023255552 by omega])]
                go_ret2
                exact NewPost.no H.tail.tail.tail
              · skip
                go_wp2_with (first
                  | go_skip
                  | ((with_reducible show wpList _ _ _ (_ :: _) _ _); (with_reducible apply wpl_loadRdR row_flow); (· rfl); (· rfl); (· exact HR.out _ H.tail.tail); (· rfl); (· exact hlen); (· decide); (· exact hrow); (simp only [Act.put, List.setIfInBounds_toArray, List.set_cons_zero, List.set_cons_succ]))
                  | ((with_reducible show wpList _ _ _ (_ :: _) _ _); (with_reducible apply wpl_allocRH row_flow); (· rfl); (· exact H); (clear H; intro px _ H); (simp only [Act.put, List.setIfInBounds_toArray, List.set_cons_zero, List.set_cons_succ]))
                  | ((with_reducible show wpList _ _ _ (_ :: _) _ _); (with_reducible apply wpl_storeRH row_flow); (· rfl); (· rfl); (· rfl); (· with_reducible exact flow_cells ..); (· exact H); (· (repeat (first | (with_reducible exact List.mem_cons_self) | with_reducible apply List.mem_cons_of_mem))); (· (simp only [flow_sz, Nat.reduceAdd, Nat.reduceLeDiff, Nat.le_refl]; done)); (· with_reducible exact flow_splice ..); (· (repeat (first | (with_reducible exact Repl.here) | with_reducible apply Repl.there))); (clear H; intro _ H); (simp only [Act.put, List.setIfInBounds_toArray, List.set_cons_zero, List.set_cons_succ]))
                  | ((with_reducible show wpList _ _ _ (_ :: _) _ _); (with_reducible apply wpl_loadCH); (· first | exact cell_party | exact cell_i64); (· rfl); (· rfl); (· exact H); (· (repeat (first | (with_reducible exact List.mem_cons_self) | with_reducible apply List.mem_cons_of_mem))); (· (with_reducible first | exact flow_g0 .. | exact flow_g1 .. | exact flow_g2 ..)); (simp only [Act.put, List.setIfInBounds_toArray, List.set_cons_zero, List.set_cons_succ]))
                  | ((with_reducible refine Ans.callH (by assumption) H ?_); clear H; intro _ H))
                refine wp_region_H H (by kernel_rfl) (by kernel_rfl) ?_
                repeat (first | go_big_quiet_skip | ((with_reducible apply wpQ_loadCH); (· exact cell_party); (· rfl); (· rfl); (· (repeat (first | (with_reducible exact List.mem_cons_self) | with_reducible apply List.mem_cons_of_mem))); (· (with_reducible first | exact flow_g0 .. | exact flow_g1 .. | exact flow_g2 ..)); (simp only [Act.put, List.setIfInBounds_toArray, List.set_cons_zero, List.set_cons_succ])) | ((with_reducible apply wpQ_loadCH); (· exact cell_bool); (· rfl); (· rfl); (· (repeat (first | (with_reducible exact List.mem_cons_self) | with_reducible apply List.mem_cons_of_mem))); (· exact matB_get _ a1 b1); (simp only [Act.put, List.setIfInBounds_toArray, List.set_cons_zero, List.set_cons_succ])) | go_big_quiet_step (fail))
                refine wpQuiet_nil ?_
                clear H
                intro _ H
                cases e6 : t a b
                · have E6 := Lib.hid e6
                  clear e6
                  go_wp2_with fail
                  replace H := (H.pull (.there .here)).perm (.cons _ (.swap _ _ _))
                  refine wp_region_O [13, 18] [0, 1, 2, 3, 4, 5, 6, 7, 8, 9, 10, 11, 12, 14, 15, 16, 13, 17, 18] (fun l0 => ∃ pre, l0 = pre ++ (Cel px (flow a b n) 32 :: l)) H ⟨[_, _], rfl⟩ (by kernel_rfl) (by kernel_rfl) ?_
                  iterate 16 (apply wpO_step; (· rfl); (· rfl); (· rfl); (· exact Nat.le_of_ble_eq_true rfl); (· rintro l0 ⟨pre, rfl⟩ w0 H0; (first | go_big_quiet_skip | ((with_reducible apply wpQ_loadCH); (· first | exact cell_party | exact cell_i64); (· rfl); (· rfl); (· ((refine List.mem_append_right _ ?_); (repeat (first | (with_reducible exact List.mem_cons_self) | with_reducible apply List.mem_cons_of_mem)))); (· (with_reducible first | exact flow_g0 .. | exact flow_g1 .. | exact flow_g2 ..)); (simp only [Act.put, List.setIfInBounds_toArray, List.set_cons_zero, List.set_cons_succ])) | go_big_quiet_step (fail)); (refine wpQuiet_nil ?_); (simp only [Array.getD_eq_getD_getElem?, List.getElem?_toArray, List.getElem?_cons_succ, List.getElem?_cons_zero, Option.getD_some]; rfl)); (simp only [Act.put, List.setIfInBounds_toArray, List.set_cons_zero, List.set_cons_succ]))
                  ((with_reducible apply wpO_storeB); (· exact cell_bool); (· rfl); (· rfl); (· rfl); (· rfl); (· rfl); (· (repeat (first | (with_reducible exact List.mem_cons_self) | with_reducible apply List.mem_cons_of_mem))); (· (rw [matB_sz]; omega)); (· exact matB_set _ a1 b1 _); (· (repeat (first | (with_reducible exact Repl.here) | with_reducible apply Repl.there))); (· exact ⟨[_, _], rfl⟩); (simp only [Act.put, List.setIfInBounds_toArray, List.set_cons_zero, List.set_cons_succ]))
                  (apply wpO_step; (· rfl); (· rfl); (· rfl); (· exact Nat.le_of_ble_eq_true rfl); (· rintro l0 ⟨pre, rfl⟩ w0 H0; (first | go_big_quiet_skip | fail | go_big_quiet_step (fail)); (refine wpQuiet_nil ?_); (simp only [Array.getD_eq_getD_getElem?, List.getElem?_toArray, List.getElem?_cons_succ, List.getElem?_cons_zero, Option.getD_some]; rfl)); (simp only [Act.put, List.setIfInBounds_toArray, List.set_cons_zero, List.set_cons_succ]))
                  ((with_reducible apply wpO_storeI); (· exact cell_i64); (· rfl); (· rfl); (· rfl); (· rfl); (· rfl); (· (repeat (first | (with_reducible exact List.mem_cons_self) | with_reducible apply List.mem_cons_of_mem))); (· (rw [gr_sz]; omega)); (· exact gr_set _ _ a1 b1 _); (· (repeat (first | (with_reducible exact Repl.here) | with_reducible apply Repl.there))); (· exact ⟨[_, _], rfl⟩); (simp only [Act.put, List.setIfInBounds_toArray, List.set_cons_zero, List.set_cons_succ]))
                  (refine wpO_nil ?_; clear H; intro _ H)
                  go_wp2_with fail
                  go_roundw
                  case rel => exact ⟨k + 1, _, _, by omega, by go_num, by rw [HG.out]; exact newS_yes (by simp [edgeB, E1.out, E2.out, E3.out, E6.out]; omega), H.drop (.there (.there .here))⟩
                  case measure => simp [intOf]; omega
                · have E6 := Lib.hid e6
                  clear e6
                  go_wp2_with fail
                  rw [HG.out, newS_no (by simp [edgeB, E6.out])]
                  go_ret2
                  exact NewPost.no H.tail.tail.tail
    · obtain rfl : k = en := by omega
      rw [List.drop_of_length_le (by rw [HL.out]; omega)] at hG
      have HG := Lib.hid hG
      clear hG
      go_wp2_with fail
      rw [HG.out]
      go_ret2
      exact NewPost.yes p H.tail
end
end Go.Proofs.Ytgobnamhdkbbeaa
