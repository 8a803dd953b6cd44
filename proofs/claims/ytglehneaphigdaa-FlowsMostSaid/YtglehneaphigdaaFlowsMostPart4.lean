/- FlowsMost: part 4 of its proof: HeapMore, Graph3, HeapOwn, Graph4, HeapLoud. -/
import Derived.Test.YtglehneaphigdaaFlowsMostPart3
import Derived.Lib.AppendZeros
import Derived.Laws.MakeOwn
import Derived.Laws.OwnMore
import Derived.Lib.BufferMore
/- More operations over a memory of things: slice literals. -/
namespace Go.Proofs.Ytglehneaphigdaa
open Go.RowKit
set_option linter.unusedSimpArgs false
set_option maxRecDepth 100000
section
variable {ops : Array Oper} {rest : List Oper} {a : Act} {w W : World} {l : List Thing} {Q : Exit → Act → World → Prop}
/-- Slice literals of one-cell elements: the parts put in, one by one. -/
theorem fill_ones : ∀ (vs : List Value) (k : Nat) (pre post : List Value), pre.length = k → post.length = vs.length → (∀ v ∈ vs, v.cells = #[v]) → Instr.fill (fun i => some (i * 1, 1)) (pre ++ post).toArray (vs.zipIdx k |>.map fun (v, i) => (i, v)) = some (pre ++ vs).toArray
  | [], k, pre, post, hk, hl, _ => by
    have : post = [] := List.eq_nil_of_length_eq_zero (by simpa using hl)
    subst this; simp [Instr.fill]
  | v :: vs, k, pre, [], hk, hl, _ => by simp at hl
  | v :: vs, k, pre, y :: post, hk, hl, hv => by
    subst hk
    have h1 := hv v (List.mem_cons_self ..)
    simp only [List.zipIdx_cons, List.map_cons]
    unfold Instr.fill
    simp only [Nat.mul_one, h1, List.size_toArray, List.length_singleton, List.length_append, List.length_cons]
    rw [if_neg (by simp)]
    have e : (Array.foldl (fun (cs : Array Value) (x : Value × Nat) => cs.setIfInBounds (pre.length + x.2) x.1) (pre ++ y :: post).toArray (#[v] : Array Value).zipIdx) = ((pre ++ [v]) ++ post).toArray := by
      simp [List.set_append]
    rw [e]
    have := fill_ones vs (pre.length + 1) (pre ++ [v]) post (by simp) (by simpa using hl) (fun u hu => hv u (List.mem_cons_of_mem _ hu))
    simp only [Nat.mul_one] at this
    rw [this]
    simp
theorem wpl_bsOnes {dst : Option Tmp} {ty : TypeId} {pos : String} {after : Array Edge} {guard : Option (Nat × Bool)} {t e n : Nat} {z : Value} (xs : List (Nat × Operand)) (vs : List Value) (hw : Region.wanted ⟨dst, .buildSlice t n xs.toArray, ty, pos, after, guard⟩ (yielded ops a.tmps) = true)
    (hx : xs.map (fun (i, x) => (i, a.eval x)) = vs.zipIdx.map fun (v, i) => (i, v)) (hn : vs.length = n) (h0 : 0 < n) (h1 : n ≤ 65536) (hv : ∀ v ∈ vs, v.cells = #[v])
    (hT : Try.prog.underlying t = some (.slice e) ∧ (Try.prog.info? e).map (fun i => (i.size, i.zero)) = some (1, some z)) (hz : z.cells.size = 1)
    (H : Heap W l w) (h : ∀ p w', Heap W (Cel p vs.toArray e :: l) w' → wpList Try.prog ops Q rest (a.put dst (.slice (some ⟨p, 0, none⟩) n n)) w') : wpList Try.prog ops Q (⟨dst, .buildSlice t n xs.toArray, ty, pos, after, guard⟩ :: rest) a w := by
  obtain ⟨i, hi, he⟩ := Option.map_eq_some_iff.1 hT.2
  simp only [Prod.mk.injEq] at he
  have r1 : (sizeOf e).run Try.prog w = .ok 1 w := by simp [sizeOf, typeInfo, hi, he.1, go_sem]
  have r2 : (zeroValue e).run Try.prog w = .ok z w := by simp [zeroValue, typeInfo, hi, he.2, go_sem]
  have hf : Instr.fill (fun i => some (i * 1, 1)) (Array.map (fun x => z.cells[x % z.cells.size]!) (Array.range (n * 1))) (xs.toArray.map (fun (i, x) => (i, a.eval x))).toList = some vs.toArray := by
    have hx2 : (xs.toArray.map (fun (i, x) => (i, a.eval x))).toList = vs.zipIdx.map fun (v, i) => (i, v) := by rw [← hx]; simp
    rw [hx2]
    have := fill_ones vs 0 [] (List.map (fun x => z.cells[x % z.cells.size]!) (List.range (n * 1))) rfl (by simp [hn]) hv
    simp only [List.nil_append] at this
    rw [← this]
    congr 1
    apply Array.ext'
    simp
  refine BigFrame.wpList_want hw fun K hK => ?_
  have hrun : (Instr.buildSlice t n (xs.toArray.map fun (i, x) => (i, a.eval x))).run Try.prog w = .ok (.slice (some ⟨w.heap.size, 0, none⟩) n n) (w.alloc (.cells vs.toArray e)) := by
    unfold Instr.buildSlice
    rw [Sem.run_bind, run_underlying hT.1]
    simp only [Result.andThen_ok]
    rw [Sem.run_bind, r1]
    simp only [Result.andThen_ok]
    rw [if_neg (by omega), if_neg (by omega)]
    simp only [Sem.run_bind, r2, Result.andThen_ok, Sem.run_pure]
    rw [hf]
    simp [newRow, go_sem]
  unfold Oper.wp execOp
  simp only [Sem.run_bind, hrun, Result.andThen_ok, Sem.run_pure]
  exact hK _ _ (h _ _ (H.alloc _ _))
theorem rd_block {w : World} {b o : Nat} {xs : List Value} (R : Rd w (some ⟨b, o, none⟩) xs) {k n : Nat} (hn : k + n ≤ xs.length) (h0 : 0 < n) :
    ∃ cs t f, w.heap[b]? = some (.cells cs t f) ∧ o + k + n ≤ cs.size ∧ cs.extract (o + k) (o + k + n) = ((xs.drop k).take n).toArray := by
  have hc := R.get (i := k) (by omega)
  simp only [World.cell?, if_true] at hc
  cases hb : w.heap[b]? with
  | none => rw [hb] at hc; cases hc
  | some ob =>
    rw [hb] at hc
    cases ob <;> first | (cases hc; done) | skip
    rename_i cs t f
    have hget : ∀ i, i < xs.length → cs[o + i]? = xs[i]? := by
      intro i hi
      have h1 := R.get hi
      simp only [World.cell?, if_true, hb] at h1
      have h2 : cs[o + i]? = some xs[i] := by simpa using h1
      rw [h2]; simp [hi]
    have hlast := hget (k + n - 1) (by omega)
    have hsz : o + (k + n - 1) < cs.size := by
      rw [List.getElem?_eq_getElem (by omega)] at hlast
      exact (Array.getElem?_eq_some_iff.1 hlast).1
    refine ⟨cs, t, f, rfl, by omega, ?_⟩
    apply Array.ext_getElem?
    intro j
    rw [Array.getElem?_extract]
    by_cases hj : j < n
    · rw [if_pos (by omega), show o + k + j = o + (k + j) by omega, hget _ (by omega)]
      simp [List.getElem?_take, hj]
    · rw [if_neg (by omega)]
      simp [List.getElem?_take, hj]
theorem wpl_loadRdR {T n : Nat} {z : Array Value} {dst : Option Tmp} {ty : TypeId} {pos : String} {after : Array Edge} {guard : Option (Nat × Bool)} {x : Operand} {b off : Nat} (RT : RowTy T n z) (hw : Region.wanted ⟨dst, .load T x, ty, pos, after, guard⟩ (yielded ops a.tmps) = true) (hx : a.eval x = .pointer (some ⟨b, off, none⟩))
    {o k : Nat} {xs : List Value} {c1 : Array Value} (R : Rd w (some ⟨b, o, none⟩) xs) (hk : off = o + k) (hn : k + n ≤ xs.length) (h0 : 0 < n) (hv : ((xs.drop k).take n).toArray = c1) (h : wpList Try.prog ops Q rest (a.put dst (.agg c1)) w) : wpList Try.prog ops Q (⟨dst, .load T x, ty, pos, after, guard⟩ :: rest) a w := by
  subst hk
  obtain ⟨cs, t, f, hb, hs, he⟩ := rd_block R hn h0
  exact wpl_loadR RT hw hx hb hs (he.trans hv) h
end
end Go.Proofs.Ytglehneaphigdaa

/- graphs.New: of edges. -/
namespace Go.Proofs.Ytglehneaphigdaa
open Go.RowKit
set_option linter.unusedSimpArgs false
set_option linter.unusedVariables false
/-- A flow: from, to, how much. -/
structure Flw where
  f : Nat
  t : Nat
  n : Int
def flwV (x : Flw) : List Value := [.int .u8 (x.f : Int), .int .u8 (x.t : Int), .int .i64 x.n]
def flwL (F : List Flw) : List Value := F.flatMap flwV
theorem flwL_len (F : List Flw) : (flwL F).length = F.length * 3 := by
  induction F with
  | nil => rfl
  | cons x F ih => simp only [flwL, List.flatMap_cons, List.length_append] at *; rw [ih]; simp [flwV, Nat.add_mul]; omega
theorem flwL_at (F : List Flw) (i : Nat) (h : i < F.length) : ((flwL F).drop (i * 3)).take 3 = flwV F[i] := by
  induction F generalizing i with
  | nil => simp at h
  | cons x F ih =>
    rcases i with _ | i
    · simp [flwL, flwV]
    · have : (i + 1) * 3 = 3 + i * 3 := by omega
      rw [this, ← List.drop_drop]
      simp only [List.length_cons] at h
      have := ih i (by omega)
      simpa [flwL, flwV] using this
/-- Such as can be: numbers of their types. -/
def FlwOk (x : Flw) : Prop := x.f ≤ 255 ∧ x.t ≤ 255 ∧ -9223372036854775808 ≤ x.n ∧ x.n ≤ 9223372036854775807
def flow (f : Int) (t : Int) (n : Int) : Array Value := #[.int .u8 f, .int .u8 t, .int .i64 n]
section
variable (f : Int) (t : Int) (n : Int)
theorem flow_sz : (flow f t n).size = 3 := rfl
theorem flow_g0 : (flow f t n)[0]? = some (.int .u8 f) := rfl
theorem flow_s0 (v : Int) : (flow f t n).setIfInBounds 0 (.int .u8 v) = flow v t n := rfl
theorem flow_g1 : (flow f t n)[1]? = some (.int .u8 t) := rfl
theorem flow_s1 (v : Int) : (flow f t n).setIfInBounds 1 (.int .u8 v) = flow f v n := rfl
theorem flow_g2 : (flow f t n)[2]? = some (.int .i64 n) := rfl
theorem flow_s2 (v : Int) : (flow f t n).setIfInBounds 2 (.int .i64 v) = flow f t v := rfl
end
theorem flow_all (f t n : Int) : (flow f t n).extract 0 (0 + 3) = flow f t n := by simp [flow]
theorem flow_cells (f t n : Int) : Cells 3 (flow f t n) := ⟨rfl, by simp [flow, Value.oneCell']⟩
theorem flow_splice (a b c f t n : Int) : splice (flow a b c) 0 (flow f t n) = flow f t n := splice_all rfl
theorem row_flow : RowTy 35 3 (flow 0 0 0) := ⟨⟨_, Try.underlying35, rfl⟩, by kernel_rfl, by kernel_rfl⟩
/-- May an edge be, by itself? -/
def edgeB (x : Flw) : Bool := mayP x.f && mayP x.t && (x.f != x.t) && decide (0 ≤ x.n) && decide (x.n ≤ 2199023255552)
/-- The capacities of edges; none, if they may not be. -/
def newS : List Flw → (Nat → Nat → Bool) → Caps → Option Caps
  | [], _, c => some c
  | x :: xs, t, c => if edgeB x && !t x.f x.t then newS xs (upd2 t x.f x.t true) (upd2 c x.f x.t x.n) else none
def newG (F : List Flw) : Option Caps := newS F (fun _ _ => false) zeroC
/-- What New answers. -/
def NewPost (W : World) (l : List Thing) (r : Option Caps) (e : Ending) (w' : World) : Prop := match r with
  | some c => ∃ p, e = .returned (.tuple #[.pointer (some ⟨p, 0, none⟩), .int .i64 0]) ∧ Heap W (Gr p c :: l) w'
  | none => e = .returned (.tuple #[.pointer none, .int .i64 1]) ∧ Heap W l w'
theorem NewPost.no {W : World} {l : List Thing} {w' : World} (h : Heap W l w') : NewPost W l none (.returned (.tuple #[.pointer none, .int .i64 1])) w' := ⟨rfl, h⟩
theorem NewPost.yes {W : World} {l : List Thing} {w' : World} {c : Caps} (p : Nat) (h : Heap W (Gr p c :: l) w') : NewPost W l (some c) (.returned (.tuple #[.pointer (some ⟨p, 0, none⟩), .int .i64 0])) w' := ⟨p, rfl, h⟩
theorem newS_no {x : Flw} {xs : List Flw} {t : Nat → Nat → Bool} {c : Caps} (h : (edgeB x && !t x.f x.t) = false) : newS (x :: xs) t c = none := by
  rw [newS, if_neg (by rw [h]; exact Bool.false_ne_true)]
theorem newS_yes {x : Flw} {xs : List Flw} {t : Nat → Nat → Bool} {c : Caps} (h : (edgeB x && !t x.f x.t) = true) : newS (x :: xs) t c = newS xs (upd2 t x.f x.t true) (upd2 c x.f x.t x.n) := by
  rw [newS, if_pos h]
theorem zero_gr : Try.zeroCells81.setIfInBounds 289 (.bool true) = gr zeroC true := by kernel_rfl
section
variable {W w : World} {l : List Thing}
set_option maxRecDepth 100000
set_option maxHeartbeats 4000000
theorem new_H (ea : Option Addr) (en ec : Nat) (F : List Flw) (hl : F.length = en) (hm : en ≤ 9223372036854775807) (hF : ∀ x ∈ F, FlwOk x) (R : ∀ w', Heap W l w' → Rd w' ea (flwL F)) (H : Heap W l w) :
    Calls Try.prog 14 #[.slice ea en ec] w (NewPost W l (newG F)) := by
  have HL := Lib.hid hl
  have HF := Lib.hid hF
  have HR := Lib.hid R
  clear hl hF R
  go_enter Try.func14, Try.ntmps14
  go_wp2_with (first
    | go_skip
    | ((with_reducible show wpList _ _ _ (_ :: _) _ _); (with_reducible apply wpl_boxRH); (· rfl); (· rfl); (· exact H); (clear H; intro p _ H); (simp only [Act.put, List.setIfInBounds_toArray, List.set_cons_zero, List.set_cons_succ]))
    | ((with_reducible show wpList _ _ _ (_ :: _) _ _); (with_reducible apply wpl_allocRH row_matB); (· rfl); (· exact H); (clear H; intro pt _ H); (simp only [Act.put, List.setIfInBounds_toArray, List.set_cons_zero, List.set_cons_succ])))
  rw [zero_gr] at H
  have hstart : newG F = newS (F.drop 0) (fun _ _ => false) zeroC := rfl
  go_loopw [12] (fun i wr => ∃ (k : Nat) (t : Nat → Nat → Bool) (c : Caps), k ≤ en ∧ i = .int .i64 k ∧ newG F = newS (F.drop k) t c ∧ Heap W (Cel pt (matB t) 88 :: Gr p c :: l) wr) (fun i _ => en - (intOf i).toNat)
  case atStart => exact ⟨0, _, _, Nat.zero_le _, rfl, hstart, H⟩
  case round =>
    obtain ⟨k, t, c, hk, rfl, hG, H'⟩ := hrel
    clear H hstart
    have H := H'
    clear H'
    by_cases hlt : k < en
    · have hkF : k < F.length := by rw [HL.out]; exact hlt
      have hok := HF.out F[k] (List.getElem_mem hkF)
      have hat := flwL_at F k hkF
      have hlen : k * 3 + 3 ≤ (flwL F).length := by rw [flwL_len]; omega
      rw [List.drop_eq_getElem_cons hkF] at hG
      generalize F[k] = x at *
      obtain ⟨a, b, n⟩ := x
      obtain ⟨h1, h2, h3, h4⟩ := hok
      simp only at h1 h2 h3 h4
      have hrow : (((flwL F).drop (k * 3)).take 3).toArray = flow a b n := by rw [hat]; rfl
      obtain ⟨eb, eo, rfl, _⟩ := (HR.out _ H.tail.tail).lt (by omega)
      have m1 := may_ans a h1
      have m2 := may_ans b h2
      have HG := Lib.hid hG
      clear hG hat hkF
      cases e1 : mayP a
      · rw [e1] at m1
        have E1 := Lib.hid e1
        clear e1
        go_wp2_with (first
          | go_skip
          | ((with_reducible show wpList _ _ _ (_ :: _) _ _); (with_reducible apply wpl_loadRdR row_flow); (· rfl); (· rfl); (· exact HR.out _ H.tail.tail); (· rfl); (· exact hlen); (· decide); (· exact hrow); (simp only [Act.put, List.setIfInBounds_toArray, List.set_cons_zero, List.set_cons_succ]))
          | ((with_reducible show wpList _ _ _ (_ :: _) _ _); (with_reducible apply wpl_allocRH row_flow); (· rfl); (· exact H); (clear H; intro px _ H); (simp only [Act.put, List.setIfInBounds_toArray, List.set_cons_zero, List.set_cons_succ]))
          | ((with_reducible show wpList _ _ _ (_ :: _) _ _); (with_reducible apply wpl_storeRH row_flow); (· rfl); (· rfl); (· rfl); (· with_reducible exact flow_cells ..); (· exact H); (· (repeat (first | (with_reducible exact List.mem_cons_self) | with_reducible apply List.mem_cons_of_mem))); (· (simp only [flow_sz, Nat.reduceAdd, Nat.reduceLeDiff, Nat.le_refl]; done)); (· with_reducible exact flow_splice ..); (· (repeat (first | (with_reducible exact Repl.here) | with_reducible apply Repl.there))); (clear H; intro _ H); (simp only [Act.put, List.setIfInBounds_toArray, List.set_cons_zero, List.set_cons_succ]))
          | ((with_reducible show wpList _ _ _ (_ :: _) _ _); (with_reducible apply wpl_loadCH); (· first | exact cell_party | exact cell_i64); (· rfl); (· rfl); (· exact H); (· (repeat (first | (with_reducible exact List.mem_cons_self) | with_reducible apply List.mem_cons_of_mem))); (· (with_reducible first | exact flow_g0 .. | exact flow_g1 .. | exact flow_g2 ..)); (simp only [Act.put, List.setIfInBounds_toArray, List.set_cons_zero, List.set_cons_succ]))
          | ((with_reducible refine Ans.callH (by assumption) H ?_); clear H; intro _ H))
        rw [HG.out, newS_no (by simp [edgeB, E1.out])]
        go_ret2
        exact NewPost.no H.tail.tail.tail
      · rw [e1] at m1
        have E1 := Lib.hid e1
        have a1 : a < 17 := by have := mayP_true e1; omega
        clear e1
        cases e2 : mayP b
        · rw [e2] at m2
          have E2 := Lib.hid e2
          clear e2
          go_wp2_with (first
            | go_skip
            | ((with_reducible show wpList _ _ _ (_ :: _) _ _); (with_reducible apply wpl_loadRdR row_flow); (· rfl); (· rfl); (· exact HR.out _ H.tail.tail); (· rfl); (· exact hlen); (· decide); (· exact hrow); (simp only [Act.put, List.setIfInBounds_toArray, List.set_cons_zero, List.set_cons_succ]))
            | ((with_reducible show wpList _ _ _ (_ :: _) _ _); (with_reducible apply wpl_allocRH row_flow); (· rfl); (· exact H); (clear H; intro px _ H); (simp only [Act.put, List.setIfInBounds_toArray, List.set_cons_zero, List.set_cons_succ]))
            | ((with_reducible show wpList _ _ _ (_ :: _) _ _); (with_reducible apply wpl_storeRH row_flow); (· rfl); (· rfl); (· rfl); (· with_reducible exact flow_cells ..); (· exact H); (· (repeat (first | (with_reducible exact List.mem_cons_self) | with_reducible apply List.mem_cons_of_mem))); (· (simp only [flow_sz, Nat.reduceAdd, Nat.reduceLeDiff, Nat.le_refl]; done)); (· with_reducible exact flow_splice ..); (· (repeat (first | (with_reducible exact Repl.here) | with_reducible apply Repl.there))); (clear H; intro _ H); (simp only [Act.put, List.setIfInBounds_toArray, List.set_cons_zero, List.set_cons_succ]))
            | ((with_reducible show wpList _ _ _ (_ :: _) _ _); (with_reducible apply wpl_loadCH); (· first | exact cell_party | exact cell_i64); (· rfl); (· rfl); (· exact H); (· (repeat (first | (with_reducible exact List.mem_cons_self) | with_reducible apply List.mem_cons_of_mem))); (· (with_reducible first | exact flow_g0 .. | exact flow_g1 .. | exact flow_g2 ..)); (simp only [Act.put, List.setIfInBounds_toArray, List.set_cons_zero, List.set_cons_succ]))
            | ((with_reducible refine Ans.callH (by assumption) H ?_); clear H; intro _ H))
          rw [HG.out, newS_no (by simp [edgeB, E2.out])]
          go_ret2
          exact NewPost.no H.tail.tail.tail
        · rw [e2] at m2
          have E2 := Lib.hid e2
          have b1 : b < 17 := by have := mayP_true e2; omega
          clear e2
          by_cases e3 : a = b
          · subst e3
            go_wp2_with (first
              | go_skip
              | ((with_reducible show wpList _ _ _ (_ :: _) _ _); (with_reducible apply wpl_loadRdR row_flow); (· rfl); (· rfl); (· exact HR.out _ H.tail.tail); (· rfl); (· exact hlen); (· decide); (· exact hrow); (simp only [Act.put, List.setIfInBounds_toArray, List.set_cons_zero, List.set_cons_succ]))
              | ((with_reducible show wpList _ _ _ (_ :: _) _ _); (with_reducible apply wpl_allocRH row_flow); (· rfl); (· exact H); (clear H; intro px _ H); (simp only [Act.put, List.setIfInBounds_toArray, List.set_cons_zero, List.set_cons_succ]))
              | ((with_reducible show wpList _ _ _ (_ :: _) _ _); (with_reducible apply wpl_storeRH row_flow); (· rfl); (· rfl); (· rfl); (· with_reducible exact flow_cells ..); (· exact H); (· (repeat (first | (with_reducible exact List.mem_cons_self) | with_reducible apply List.mem_cons_of_mem))); (· (simp only [flow_sz, Nat.reduceAdd, Nat.reduceLeDiff, Nat.le_refl]; done)); (· with_reducible exact flow_splice ..); (· (repeat (first | (with_reducible exact Repl.here) | with_reducible apply Repl.there))); (clear H; intro _ H); (simp only [Act.put, List.setIfInBounds_toArray, List.set_cons_zero, List.set_cons_succ]))
              | ((with_reducible show wpList _ _ _ (_ :: _) _ _); (with_reducible apply wpl_loadCH); (· first | exact cell_party | exact cell_i64); (· rfl); (· rfl); (· exact H); (· (repeat (first | (with_reducible exact List.mem_cons_self) | with_reducible apply List.mem_cons_of_mem))); (· (with_reducible first | exact flow_g0 .. | exact flow_g1 .. | exact flow_g2 ..)); (simp only [Act.put, List.setIfInBounds_toArray, List.set_cons_zero, List.set_cons_succ]))
              | ((with_reducible refine Ans.callH (by assumption) H ?_); clear H; intro _ H))
            rw [HG.out, newS_no (by simp [edgeB, E1.out])]
            go_ret2
            exact NewPost.no H.tail.tail.tail
          · have e3' : ((a : Int) == (b : Int)) = false := by simp; omega
            have e3'' : (a == b) = false := by simpa using e3
            have E3 := Lib.hid e3
            clear e3
            by_cases e4 : n < 0
            · skip
              go_wp2_with (first
                | go_skip
                | ((with_reducible show wpList _ _ _ (_ :: _) _ _); (with_reducible apply wpl_loadRdR row_flow); (· rfl); (· rfl); (· exact HR.out _ H.tail.tail); (· rfl); (· exact hlen); (· decide); (· exact hrow); (simp only [Act.put, List.setIfInBounds_toArray, List.set_cons_zero, List.set_cons_succ]))
                | ((with_reducible show wpList _ _ _ (_ :: _) _ _); (with_reducible apply wpl_allocRH row_flow); (· rfl); (· exact H); (clear H; intro px _ H); (simp only [Act.put, List.setIfInBounds_toArray, List.set_cons_zero, List.set_cons_succ]))
                | ((with_reducible show wpList _ _ _ (_ :: _) _ _); (with_reducible apply wpl_storeRH row_flow); (· rfl); (· rfl); (· rfl); (· with_reducible exact flow_cells ..); (· exact H); (· (repeat (first | (with_reducible exact List.mem_cons_self) | with_reducible apply List.mem_cons_of_mem))); (· (simp only [flow_sz, Nat.reduceAdd, Nat.reduceLeDiff, Nat.le_refl]; done)); (· with_reducible exact flow_splice ..); (· (repeat (first | (with_reducible exact Repl.here) | with_reducible apply Repl.there))); (clear H; intro _ H); (simp only [Act.put, List.setIfInBounds_toArray, List.set_cons_zero, List.set_cons_succ]))
                | ((with_reducible show wpList _ _ _ (_ :: _) _ _); (with_reducible apply wpl_loadCH); (· first | exact cell_party | exact cell_i64); (· rfl); (· rfl); (· exact H); (· (repeat (first | (with_reducible exact List.mem_cons_self) | with_reducible apply List.mem_cons_of_mem))); (· (with_reducible first | exact flow_g0 .. | exact flow_g1 .. | exact flow_g2 ..)); (simp only [Act.put, List.setIfInBounds_toArray, List.set_cons_zero, List.set_cons_succ]))
                | ((with_reducible refine Ans.callH (by assumption) H ?_); clear H; intro _ H))
              rw [HG.out, newS_no (by simp [edgeB, show ¬ 0 ≤ n by omega])]
              go_ret2
              exact NewPost.no H.tail.tail.tail
            · by_cases e5 : 2199023255552 < n
              · skip
                go_wp2_with (first
                  | go_skip
                  | ((with_reducible show wpList _ _ _ (_ :: _) _ _); (with_reducible apply wpl_loadRdR row_flow); (· rfl); (· rfl); (· exact HR.out _ H.tail.tail); (· rfl); (· exact hlen); (· decide); (· exact hrow); (simp only [Act.put, List.setIfInBounds_toArray, List.set_cons_zero, List.set_cons_succ]))
                  | ((with_reducible show wpList _ _ _ (_ :: _) _ _); (with_reducible apply wpl_allocRH row_flow); (· rfl); (· exact H); (clear H; intro px _ H); (simp only [Act.put, List.setIfInBounds_toArray, List.set_cons_zero, List.set_cons_succ]))
                  | ((with_reducible show wpList _ _ _ (_ :: _) _ _); (with_reducible apply wpl_storeRH row_flow); (· rfl); (· rfl); (· rfl); (· with_reducible exact flow_cells ..); (· exact H); (· (repeat (first | (with_reducible exact List.mem_cons_self) | with_reducible apply List.mem_cons_of_mem))); (· (simp only [flow_sz, Nat.reduceAdd, Nat.reduceLeDiff, Nat.le_refl]; done)); (· with_reducible exact flow_splice ..); (· (repeat (first | (with_reducible exact Repl.here) | with_reducible apply Repl.there))); (clear H; intro _ H); (simp only [Act.put, List.setIfInBounds_toArray, List.set_cons_zero, List.set_cons_succ]))
                  | ((with_reducible show wpList _ _ _ (_ :: _) _ _); (with_reducible apply wpl_loadCH); (· first | exact cell_party | exact cell_i64); (· rfl); (· rfl); (· exact H); (· (repeat (first | (with_reducible exact List.mem_cons_self) | with_reducible apply List.mem_cons_of_mem))); (· (with_reducible first | exact flow_g0 .. | exact flow_g1 .. | exact flow_g2 ..)); (simp only [Act.put, List.setIfInBounds_toArray, List.set_cons_zero, List.set_cons_succ]))
                  | ((with_reducible refine Ans.callH (by assumption) H ?_); clear H; intro _ H))
                rw [HG.out, newS_no (by simp [edgeB, show ¬ n ≤ 2199023255552 by omega])]
                go_ret2
                exact NewPost.no H.tail.tail.tail
              · skip
                go_wp2_with (first
                  | go_skip
                  | ((with_reducible show wpList _ _ _ (_ :: _) _ _); (with_reducible apply wpl_loadRdR row_flow); (· rfl); (· rfl); (· exact HR.out _ H.tail.tail); (· rfl); (· exact hlen); (· decide); (· exact hrow); (simp only [Act.put, List.setIfInBounds_toArray, List.set_cons_zero, List.set_cons_succ]))
                  | ((with_reducible show wpList _ _ _ (_ :: _) _ _); (with_reducible apply wpl_allocRH row_flow); (· rfl); (· exact H); (clear H; intro px _ H); (simp only [Act.put, List.setIfInBounds_toArray, List.set_cons_zero, List.set_cons_succ]))
                  | ((with_reducible show wpList _ _ _ (_ :: _) _ _); (with_reducible apply wpl_storeRH row_flow); (· rfl); (· rfl); (· rfl); (· with_reducible exact flow_cells ..); (· exact H); (· (repeat (first | (with_reducible exact List.mem_cons_self) | with_reducible apply List.mem_cons_of_mem))); (· (simp only [flow_sz, Nat.reduceAdd, Nat.reduceLeDiff, Nat.le_refl]; done)); (· with_reducible exact flow_splice ..); (· (repeat (first | (with_reducible exact Repl.here) | with_reducible apply Repl.there))); (clear H; intro _ H); (simp only [Act.put, List.setIfInBounds_toArray, List.set_cons_zero, List.set_cons_succ]))
                  | ((with_reducible show wpList _ _ _ (_ :: _) _ _); (with_reducible apply wpl_loadCH); (· first | exact cell_party | exact cell_i64); (· rfl); (· rfl); (· exact H); (· (repeat (first | (with_reducible exact List.mem_cons_self) | with_reducible apply List.mem_cons_of_mem))); (· (with_reducible first | exact flow_g0 .. | exact flow_g1 .. | exact flow_g2 ..)); (simp only [Act.put, List.setIfInBounds_toArray, List.set_cons_zero, List.set_cons_succ]))
                  | ((with_reducible refine Ans.callH (by assumption) H ?_); clear H; intro _ H))
                refine wp_region_H H (by kernel_rfl) (by kernel_rfl) ?_
                repeat (first | go_big_quiet_skip | ((with_reducible apply wpQ_loadCH); (· exact cell_party); (· rfl); (· rfl); (· (repeat (first | (with_reducible exact List.mem_cons_self) | with_reducible apply List.mem_cons_of_mem))); (· (with_reducible first | exact flow_g0 .. | exact flow_g1 .. | exact flow_g2 ..)); (simp only [Act.put, List.setIfInBounds_toArray, List.set_cons_zero, List.set_cons_succ])) | ((with_reducible apply wpQ_loadCH); (· exact cell_bool); (· rfl); (· rfl); (· (repeat (first | (with_reducible exact List.mem_cons_self) | with_reducible apply List.mem_cons_of_mem))); (· exact matB_get _ a1 b1); (simp only [Act.put, List.setIfInBounds_toArray, List.set_cons_zero, List.set_cons_succ])) | go_big_quiet_step (fail))
                refine wpQuiet_nil ?_
                clear H
                intro _ H
                cases e6 : t a b
                · have E6 := Lib.hid e6
                  clear e6
                  go_wp2_with fail
                  replace H := (H.pull (.there .here)).perm (.cons _ (.swap _ _ _))
                  refine wp_region_O [13, 18] [0, 1, 2, 3, 4, 5, 6, 7, 8, 9, 10, 11, 12, 14, 15, 16, 13, 17, 18] (fun l0 => ∃ pre, l0 = pre ++ (Cel px (flow a b n) 35 :: l)) H ⟨[_, _], rfl⟩ (by kernel_rfl) (by kernel_rfl) ?_
                  iterate 16 (apply wpO_step; (· rfl); (· rfl); (· rfl); (· exact Nat.le_of_ble_eq_true rfl); (· rintro l0 ⟨pre, rfl⟩ w0 H0; (first | go_big_quiet_skip | ((with_reducible apply wpQ_loadCH); (· first | exact cell_party | exact cell_i64); (· rfl); (· rfl); (· ((refine List.mem_append_right _ ?_); (repeat (first | (with_reducible exact List.mem_cons_self) | with_reducible apply List.mem_cons_of_mem)))); (· (with_reducible first | exact flow_g0 .. | exact flow_g1 .. | exact flow_g2 ..)); (simp only [Act.put, List.setIfInBounds_toArray, List.set_cons_zero, List.set_cons_succ])) | go_big_quiet_step (fail)); (refine wpQuiet_nil ?_); (simp only [Array.getD_eq_getD_getElem?, List.getElem?_toArray, List.getElem?_cons_succ, List.getElem?_cons_zero, Option.getD_some]; rfl)); (simp only [Act.put, List.setIfInBounds_toArray, List.set_cons_zero, List.set_cons_succ]))
                  ((with_reducible apply wpO_storeB); (· exact cell_bool); (· rfl); (· rfl); (· rfl); (· rfl); (· rfl); (· (repeat (first | (with_reducible exact List.mem_cons_self) | with_reducible apply List.mem_cons_of_mem))); (· (rw [matB_sz]; omega)); (· exact matB_set _ a1 b1 _); (· (repeat (first | (with_reducible exact Repl.here) | with_reducible apply Repl.there))); (· exact ⟨[_, _], rfl⟩); (simp only [Act.put, List.setIfInBounds_toArray, List.set_cons_zero, List.set_cons_succ]))
                  (apply wpO_step; (· rfl); (· rfl); (· rfl); (· exact Nat.le_of_ble_eq_true rfl); (· rintro l0 ⟨pre, rfl⟩ w0 H0; (first | go_big_quiet_skip | fail | go_big_quiet_step (fail)); (refine wpQuiet_nil ?_); (simp only [Array.getD_eq_getD_getElem?, List.getElem?_toArray, List.getElem?_cons_succ, List.getElem?_cons_zero, Option.getD_some]; rfl)); (simp only [Act.put, List.setIfInBounds_toArray, List.set_cons_zero, List.set_cons_succ]))
                  ((with_reducible apply wpO_storeI); (· exact cell_i64); (· rfl); (· rfl); (· rfl); (· rfl); (· rfl); (· (repeat (first | (with_reducible exact List.mem_cons_self) | with_reducible apply List.mem_cons_of_mem))); (· (rw [gr_sz]; omega)); (· exact gr_set _ _ a1 b1 _); (· (repeat (first | (with_reducible exact Repl.here) | with_reducible apply Repl.there))); (· exact ⟨[_, _], rfl⟩); (simp only [Act.put, List.setIfInBounds_toArray, List.set_cons_zero, List.set_cons_succ]))
                  (refine wpO_nil ?_; clear H; intro _ H)
                  go_wp2_with fail
                  go_roundw
                  case rel => exact ⟨k + 1, _, _, by omega, by go_num, by rw [HG.out]; exact newS_yes (by simp [edgeB, E1.out, E2.out, E3.out, E6.out]; omega), H.drop (.there (.there .here))⟩
                  case measure => simp [intOf]; omega
                · have E6 := Lib.hid e6
                  clear e6
                  go_wp2_with fail
                  rw [HG.out, newS_no (by simp [edgeB, E6.out])]
                  go_ret2
                  exact NewPost.no H.tail.tail.tail
    · obtain rfl : k = en := by omega
      rw [List.drop_of_length_le (by rw [HL.out]; omega)] at hG
      have HG := Lib.hid hG
      clear hG
      go_wp2_with fail
      rw [HG.out]
      go_ret2
      exact NewPost.yes p H.tail
end
end Go.Proofs.Ytglehneaphigdaa

/- Slices of one's own over a memory of things: rows that grow by append. -/
namespace Go.Proofs.Ytglehneaphigdaa
open Go.RowKit
set_option linter.unusedSimpArgs false
set_option linter.unusedVariables false
theorem slTy_mk {P : Program} {t e size bytes : Nat} {z : Value} (h1 : P.underlying t = some (.slice e)) (h2 : (P.info? e).map (fun i => (i.zero, i.size, i.bytes)) = some (some z, size, bytes))
    (h3 : z.cells.size = size) (h4 : 0 < size) : SlTy P t e size bytes z := by
  obtain ⟨j, hj, he⟩ := Option.map_eq_some_iff.1 h2
  simp only [Prod.mk.injEq] at he
  exact ⟨h1, ⟨j, hj, he.1, he.2.1, he.2.2⟩, h3, h4⟩
def OneCells (cs : List Value) : Prop := ∀ u ∈ cs, u.oneCell' = true
theorem ownsRow_mono {w : World} {b b' e size : Nat} {v : Value} {n : Nat} {xs : List Value} (h : w.ownsRow b e size v n xs) (hb : b' ≤ b) : w.ownsRow b' e size v n xs := by
  obtain ⟨h1, h2⟩ := h
  refine ⟨h1, ?_⟩
  rcases h2 with h2 | ⟨g, cap, cur, e, hg, r⟩
  · exact .inl h2
  · exact .inr ⟨g, cap, cur, e, by omega, r⟩
theorem ownsRow_fp {w : World} {b e size : Nat} {v : Value} {n : Nat} {xs : List Value} (h : w.ownsRow b e size v n xs) : ∀ k, v.ownBlock = some k → b ≤ k ∧ k < w.heap.size := by
  obtain ⟨h1, ⟨rfl, _⟩ | ⟨g, cap, cur, rfl, hg, hh, r⟩⟩ := h
  · intro k hk; cases hk
  · intro k hk
    obtain rfl : g = k := by simpa [Value.ownBlock] using hk
    exact ⟨hg, (Array.getElem?_eq_some_iff.1 hh).1⟩
/-- Behind a call that left all as it was and owns a new row. -/
theorem Heap.addRow {W w w' : World} {l : List Thing} {e size : Nat} {v : Value} {n : Nat} {xs : List Value} (H : Heap W l w) (hb : Below w.heap.size w w') (ho : w'.ownsRow w.heap.size e size v n xs) : Heap W (RowT e size v n xs :: l) w' :=
  H.add ⟨hb.os, hb.tape, hb.output, hb.size, fun k hk _ => hb.block k hk⟩ (ownsRow_mono ho (Nat.zero_le _)) (ownsRow_fp ho)
theorem Heap.celRd {W w : World} {l : List Thing} (H : Heap W l w) {p : Nat} {c : Array Value} {t : TypeId} (m : Cel p c t ∈ l) : Rd w (some ⟨p, 0, none⟩) c.toList := by
  intro i hi
  refine ⟨p, 0, rfl, ?_⟩
  rw [cell_of_row w p (0 + i) c t _ (H.blk m)]
  simp at hi
  simp [hi]
/-- A nil slice is a row of nothing. -/
theorem Heap.nilRow {W w : World} {l : List Thing} (e size : Nat) (H : Heap W l w) : Heap W (RowT e size (.slice none 0 0) 0 [] :: l) w :=
  H.add (World.grownBy.refl _ _) ⟨by simp, .inl ⟨rfl, rfl⟩⟩ (fun k hk => by cases hk)
section
variable {ops : Array Oper} {rest : List Oper} {o : Oper} {a : Act} {w W : World} {l : List Thing} {Q : Exit → Act → World → Prop}
/-- append(s, x...) to a row of one's own. -/
theorem wpl_appendH {t e size bytes : Nat} {z : Value} (T : SlTy Try.prog t e size bytes z) (hgd : o.guard = none) {s x : Operand}
    (ho : o.op = .call { callee := .builtin .append, args := #[s, x], argTypes := #[t, t] }) {v : Value} (hs : a.eval s = v) {b off m c : Nat} (hx : a.eval x = .slice (some ⟨b, off, none⟩) m c)
    {n : Nat} {xs news : List Value} (H : Heap W (RowT e size v n xs :: l) w) (hrd : Rd w (some ⟨b, off, none⟩) news) (hl : news.length = m * size) (h1 : OneCells news)
    (h63 : n + m ≤ maxLen) (hbytes : (n + m) * bytes ≤ 140737488355328)
    (h : ∀ v' w', Heap W (RowT e size v' (n + m) (xs ++ news) :: l) w' → wpList Try.prog ops Q rest (a.put o.dst v') w') : wpList Try.prog ops Q (o :: rest) a w := by
  refine wpl_appendB hgd s x t ho T 0 v n xs hs (H.ok _ List.mem_cons_self) b off m c news hx hl hrd h1 h63 hbytes (Nat.zero_le _) ?_
  intro v' w' hown hg hbl
  refine h v' w' (H.head hg hown ?_)
  rcases hbl with hbl | hbl
  · exact .inl hbl
  · refine .inr fun k hk => ?_
    have h2 := ownsRow_fp hown k hk
    have hk' : v'.ownBlock = some k := hk
    rw [hbl] at hk'
    cases hk'
    exact ⟨Nat.le_refl _, h2.2⟩
end
end Go.Proofs.Ytglehneaphigdaa

/- graphs.Graph: Edges. -/
namespace Go.Proofs.Ytglehneaphigdaa
open Go.RowKit
set_option linter.unusedSimpArgs false
set_option linter.unusedVariables false
theorem slF : SlTy Try.prog 22 35 3 16 (.agg (flow 0 0 0)) := slTy_mk Try.underlying22 (by kernel_rfl) rfl (by decide)
theorem bs_flow : Try.prog.underlying 22 = some (.slice 35) ∧ (Try.prog.info? 35).map (fun i => (i.size, i.zero.map Value.cells)) = some ((flow 0 0 0).size, some (flow 0 0 0)) ∧ 0 < (flow 0 0 0).size ∧ (flow 0 0 0).size ≤ 65536 := ⟨Try.underlying22, by kernel_rfl, by decide, by decide⟩
section
variable {ops : Array Oper} {rest : List Oper} {a : Act} {w : World} {Q : Exit → Act → World → Prop} {dst : Option Tmp} {ty : TypeId} {pos : String} {after : Array Edge} {guard : Option (Nat × Bool)} {p q : Operand}
theorem wpl_indexMat {c : Caps} {i : Nat} (hw : Region.wanted ⟨dst, .index 79 p q, ty, pos, after, guard⟩ (yielded ops a.tmps) = true) (hp : a.eval p = .agg (mat c)) (hq : a.eval q = .int .i64 (i : Int)) (hi : i < 17)
    (h : wpList Try.prog ops Q rest (a.put dst (.agg (row17 (c i)))) w) : wpList Try.prog ops Q (⟨dst, .index 79 p q, ty, pos, after, guard⟩ :: rest) a w := by
  refine wpl_pure hw _ (fun w => ?_) h
  have hu := Try.underlying79
  have hs : (sizeOf 52).run Try.prog w = .ok 17 w := by kernel_rfl
  have hp17 := part_row c i hi w
  unfold execOp
  simp only [hp, hq]
  simp [Instr.index, asIntOf, run_underlying hu, Sem.run_bind, hs, hi, hp17]
theorem wpl_indexRow {r : Nat → Int} {i : Nat} (hw : Region.wanted ⟨dst, .index 52 p q, ty, pos, after, guard⟩ (yielded ops a.tmps) = true) (hp : a.eval p = .agg (row17 r)) (hq : a.eval q = .int .i64 (i : Int)) (hi : i < 17)
    (h : wpList Try.prog ops Q rest (a.put dst (.int .i64 (r i))) w) : wpList Try.prog ops Q (⟨dst, .index 52 p q, ty, pos, after, guard⟩ :: rest) a w := by
  refine wpl_pure hw _ (fun w => ?_) h
  have hu := Try.underlying52
  have hs : (sizeOf 2).run Try.prog w = .ok 1 w := by kernel_rfl
  have hp17 := part_cell r i hi w
  rw [Nat.mul_one] at hp17
  unfold execOp
  simp only [hp, hq]
  simp [Instr.index, asIntOf, run_underlying hu, Sem.run_bind, hs, hi, hp17]
end
theorem row17_all (r : Nat → Int) : (row17 r).extract 0 (0 + 17) = row17 r := by
  have := row17_sz r
  simp [← this]
theorem row17_cells (r : Nat → Int) : Cells 17 (row17 r) := tab_cells fun i _ => rfl
theorem row17_splice (r s : Nat → Int) : splice (row17 r) 0 (row17 s) = row17 s := splice_all (by rw [row17_sz, row17_sz])
/-- The edges of a row, of the first ones of its places. -/
def rowE (c : Caps) (a : Nat) : Nat → List Flw
  | 0 => []
  | b + 1 => rowE c a b ++ if 0 < c a b then [⟨a, b, c a b⟩] else []
/-- All edges of the first rows, in order. -/
def matE (c : Caps) : Nat → List Flw
  | 0 => []
  | a + 1 => matE c a ++ rowE c a 17
def edgesOf (c : Caps) : List Flw := matE c 17
theorem rowE_len (c : Caps) (a : Nat) : ∀ b, (rowE c a b).length ≤ b
  | 0 => by simp [rowE]
  | b + 1 => by have := rowE_len c a b; simp only [rowE, List.length_append]; split <;> simp <;> omega
theorem matE_len (c : Caps) : ∀ a, (matE c a).length ≤ a * 17
  | 0 => by simp [matE]
  | a + 1 => by have := matE_len c a; have := rowE_len c a 17; simp only [matE, List.length_append]; omega
theorem flwL_app (F G : List Flw) : flwL (F ++ G) = flwL F ++ flwL G := by simp [flwL]
theorem flowC_one (f t n : Int) : OneCells (flow f t n).toList := by
  intro u hu
  simp [flow] at hu
  rcases hu with rfl | rfl | rfl <;> rfl
/-- A list that is answered: nil, if it is empty; else it lies in a block of its own. -/
def ListPost (W : World) (l : List Thing) (e size : Nat) (xs : List Value) (n : Nat) (r : Ending) (w' : World) : Prop :=
  (n = 0 ∧ r = .returned (.slice none 0 0) ∧ Heap W l w') ∨ (0 < n ∧ ∃ g c, r = .returned (.slice (some ⟨g, 0, none⟩) n n) ∧ n ≤ c ∧ Heap W (Sl g e size n c xs :: l) w')
theorem ListPost.nil {W : World} {l : List Thing} {e size n : Nat} {xs : List Value} {w' : World} (h : n = 0) (H : Heap W l w') : ListPost W l e size xs n (.returned (.slice none 0 0)) w' := .inl ⟨h, rfl, H⟩
theorem ListPost.some {W : World} {l : List Thing} {e size n : Nat} {xs : List Value} {w' : World} (h : 0 < n) (g c : Nat) (hc : n ≤ c) (H : Heap W (Sl g e size n c xs :: l) w') : ListPost W l e size xs n (.returned (.slice (some ⟨g, 0, none⟩) n n)) w' := .inr ⟨h, g, c, rfl, hc, H⟩
section
variable {W w : World} {l : List Thing} {p q : Nat} {c d : Caps} {m : Bool} {R : Ending → World → Prop}
set_option maxRecDepth 100000
set_option maxHeartbeats 1000000
theorem edges_nil : Ans 24 #[.pointer none] (.slice none 0 0) := by
  intro w
  have h := there_nil
  go_enter Try.func24, Try.ntmps24
  go_wp2_with (first | go_skip | ((with_reducible refine Ans.call (by assumption) ?_); intro _))
  go_ret
  exact ⟨rfl, (by repeat (first | exact Ext.refl _ | refine Ext.alloc ?_ _ | refine Ext.ext ?_ _ | refine Ext.drew ?_))⟩
theorem edges_zero (h : Cel p (gr c false) 81 ∈ l) : AnsH W l 24 #[.pointer (some ⟨p, 0, none⟩)] (.slice none 0 0) := by
  intro w H
  go_enter Try.func24, Try.ntmps24
  go_wp2_with (first | go_skip | ((with_reducible apply there_call H); (· exact h); (clear H; intro _ H)))
  go_ret
  exact ⟨rfl, H⟩
theorem clipF_nil : Ans 49 #[.slice none 0 0] (.slice none 0 0) := by
  intro w
  go_enter Try.func49, Try.ntmps49
  go_wp2
  go_ret
  exact ⟨rfl, (by repeat (first | exact Ext.refl _ | refine Ext.alloc ?_ _ | refine Ext.ext ?_ _ | refine Ext.drew ?_))⟩
theorem clipF (a : Addr) (n c : Nat) (hn : n ≤ c) (hc : c ≤ maxLen) : Ans 49 #[.slice (some a) n c] (.slice (some a) n n) := by
  intro w
  unfold maxLen at hc
  have ha : a.add 0 = a := by simp [Addr.add]
  go_enter Try.func49, Try.ntmps49
  go_wp2
  go_ret
  exact ⟨rfl, (by repeat (first | exact Ext.refl _ | refine Ext.alloc ?_ _ | refine Ext.ext ?_ _ | refine Ext.drew ?_))⟩
theorem edges_H (H : Heap W l w) (h : Gr p c ∈ l) : Calls Try.prog 24 #[.pointer (some ⟨p, 0, none⟩)] w (ListPost W l 35 3 (flwL (edgesOf c)) (edgesOf c).length) := by
  go_enter Try.func24, Try.ntmps24
  go_wp2_with (first
    | go_skip
    | ((with_reducible apply there_call H); (· exact h); (clear H; intro _ H))
    | ((with_reducible show wpList _ _ _ (_ :: _) _ _); (with_reducible apply wpl_loadRH row_mat); (· rfl); (· rfl); (· exact H); (· exact h); (· (simp only [gr_sz, Nat.reduceAdd, Nat.reduceLeDiff]; done)); (· exact gr_caps _ _); (simp only [Act.put, List.setIfInBounds_toArray, List.set_cons_zero, List.set_cons_succ])))
  have H0 := H.nilRow 35 3
  clear H
  go_loopw [2, 14] (fun v i wr => ∃ k : Nat, k ≤ 17 ∧ i = .int .i64 k ∧ ((matE c k).length = 0 → v = .slice none 0 0) ∧ Heap W (RowT 35 3 v (matE c k).length (flwL (matE c k)) :: l) wr) (fun _ i _ => 17 - (intOf i).toNat)
  case atStart => exact ⟨0, by omega, rfl, fun _ => rfl, H0⟩
  case round =>
    obtain ⟨k, hk, rfl, hz, H'⟩ := hrel
    have HZ := Lib.hid hz
    clear H0 hz
    have H := H'
    clear H'
    by_cases hlt : k < 17
    · go_wp2_with (first
        | go_skip
        | ((with_reducible show wpList _ _ _ (_ :: _) _ _); (with_reducible apply wpl_indexMat); (· rfl); (· rfl); (· rfl); (· exact hlt); (simp only [Act.put, List.setIfInBounds_toArray, List.set_cons_zero, List.set_cons_succ]))
        | ((with_reducible show wpList _ _ _ (_ :: _) _ _); (with_reducible apply wpl_allocRH row_17); (· rfl); (· exact H); (clear H; intro pr _ H); (simp only [Act.put, List.setIfInBounds_toArray, List.set_cons_zero, List.set_cons_succ]))
        | ((with_reducible show wpList _ _ _ (_ :: _) _ _); (with_reducible apply wpl_storeRH row_17); (· rfl); (· rfl); (· rfl); (· with_reducible exact row17_cells ..); (· exact H); (· (repeat (first | (with_reducible exact List.mem_cons_self) | with_reducible apply List.mem_cons_of_mem))); (· (simp only [row17_sz, Nat.reduceAdd, Nat.reduceLeDiff, Nat.le_refl]; done)); (· with_reducible exact row17_splice ..); (· (repeat (first | (with_reducible exact Repl.here) | with_reducible apply Repl.there))); (clear H; intro _ H); (simp only [Act.put, List.setIfInBounds_toArray, List.set_cons_zero, List.set_cons_succ]))
        | ((with_reducible show wpList _ _ _ (_ :: _) _ _); (with_reducible apply wpl_loadRH row_17); (· rfl); (· rfl); (· exact H); (· (repeat (first | (with_reducible exact List.mem_cons_self) | with_reducible apply List.mem_cons_of_mem))); (· (simp only [row17_sz, Nat.reduceAdd, Nat.reduceLeDiff, Nat.le_refl]; done)); (· with_reducible exact row17_all ..); (simp only [Act.put, List.setIfInBounds_toArray, List.set_cons_zero, List.set_cons_succ])))
      replace H := H.tail
      have H0 := H
      clear H
      rw [show matE c k = matE c k ++ rowE c k 0 by simp [rowE]] at H0
      go_loopw [2, 19] (fun v i wr => ∃ j : Nat, j ≤ 17 ∧ i = .int .i64 j ∧ ((matE c k ++ rowE c k j).length = 0 → v = .slice none 0 0) ∧ Heap W (RowT 35 3 v (matE c k ++ rowE c k j).length (flwL (matE c k ++ rowE c k j)) :: l) wr) (fun _ i _ => 17 - (intOf i).toNat)
      case atStart => exact ⟨0, by omega, rfl, fun h => HZ.out (by simpa [rowE] using h), H0⟩
      case round =>
        obtain ⟨j, hj, rfl, hz2, H'⟩ := hrel
        have HZ2 := Lib.hid hz2
        clear H0 hz2
        have H := H'
        clear H'
        by_cases hjt : j < 17
        · have hb : (matE c k ++ rowE c k j).length ≤ 289 := by have := matE_len c k; have := rowE_len c k j; simp only [List.length_append]; omega
          by_cases hpos : 0 < c k j
          · have hE : rowE c k (j + 1) = rowE c k j ++ [⟨k, j, c k j⟩] := by rw [rowE, if_pos hpos]
            have HE := Lib.hid hE
            clear hE
            have h1 : (matE c k ++ rowE c k j).length + 1 ≤ maxLen := by unfold maxLen; omega
            have h2 : ((matE c k ++ rowE c k j).length + 1) * 16 ≤ 140737488355328 := by omega
            go_wp2_with (first
              | go_skip
              | ((with_reducible show wpList _ _ _ (_ :: _) _ _); (with_reducible apply wpl_indexRow); (· rfl); (· rfl); (· rfl); (· exact hjt); (simp only [Act.put, List.setIfInBounds_toArray, List.set_cons_zero, List.set_cons_succ]))
              | ((with_reducible show wpList _ _ _ (_ :: _) _ _); (with_reducible apply wpl_bsRH); (· rfl); (· rfl); (· exact bs_flow); (· exact rfl); (· exact H); (clear H; intro pf _ H); (simp only [Act.put, List.setIfInBounds_toArray, List.set_cons_zero, List.set_cons_succ]))
              | ((with_reducible show wpList _ _ _ (_ :: _) _ _); (with_reducible apply wpl_appendH slF); (· rfl); (· rfl); (· rfl); (· rfl); (· exact H.perm (.swap _ _ _)); (· exact H.celRd List.mem_cons_self); (· rfl); (· exact flowC_one _ _ _); (· exact h1); (· exact h2); (clear H; intro v2 _ H); (simp only [Act.put, List.setIfInBounds_toArray, List.set_cons_zero, List.set_cons_succ])))
            go_roundw
            case rel =>
              refine ⟨j + 1, by omega, by go_num, ?_⟩
              have e1 : matE c k ++ rowE c k (j + 1) = (matE c k ++ rowE c k j) ++ [⟨k, j, c k j⟩] := by rw [HE.out, List.append_assoc]
              rw [e1, flwL_app]
              rw [List.length_append]
              exact ⟨fun h => by simp at h, H.drop (.there .here)⟩
            case measure => simp [intOf]; omega
          · have hE : rowE c k (j + 1) = rowE c k j := by rw [rowE, if_neg hpos]; simp
            have HE := Lib.hid hE
            clear hE
            go_wp2_with (first
              | go_skip
              | ((with_reducible show wpList _ _ _ (_ :: _) _ _); (with_reducible apply wpl_indexRow); (· rfl); (· rfl); (· rfl); (· exact hjt); (simp only [Act.put, List.setIfInBounds_toArray, List.set_cons_zero, List.set_cons_succ])))
            go_roundw
            case rel => exact ⟨j + 1, by omega, by go_num, by rw [HE.out]; exact ⟨HZ2.out, H⟩⟩
            case measure => simp [intOf]; omega
        · obtain rfl : j = 17 := by omega
          go_wp2_with fail
          go_roundw
          case rel => exact ⟨k + 1, by omega, by go_num, HZ2.out, H⟩
          case measure => simp [intOf]; omega
    · obtain rfl : k = 17 := by omega
      have H2 := H
      rw [show matE c 17 = edgesOf c from rfl] at H2
      have hlen : (edgesOf c).length ≤ 289 := matE_len c 17
      clear H
      have H := H2
      clear H2
      have HZ3 := Lib.hid (show (edgesOf c).length = 0 → u2 = .slice none 0 0 from HZ.out)
      clear HZ
      generalize edgesOf c = E at *
      by_cases h0 : E.length = 0
      · obtain rfl := HZ3.out h0
        have hcl := clipF_nil
        have H0 := Lib.hid h0
        clear h0
        go_wp2_with ((with_reducible refine Ans.callH (by assumption) H ?_); clear H; intro _ H)
        go_ret
        exact ListPost.nil H0.out H.tail
      · obtain ⟨g, cc, rfl, hc, hm⟩ := RowT.sl (H.ok _ List.mem_cons_self) (by omega)
        have hcl := clipF ⟨g, 0, none⟩ E.length cc hc hm
        have hp : 0 < E.length := by omega
        have HP := Lib.hid hp
        clear hp h0
        generalize hn : E.length = n at *
        have HN := Lib.hid hn
        clear hn
        go_wp2_with ((with_reducible refine Ans.callH (by assumption) H ?_); clear H; intro _ H)
        go_ret
        exact ListPost.some HP.out g cc hc H
end
end Go.Proofs.Ytglehneaphigdaa

/- Loud operations in a region that draws: a slice literal of one row, an append. -/
namespace Go.Proofs.Ytglehneaphigdaa
open Go.RowKit
set_option linter.unusedVariables false
section
variable {W : World} {G : List Thing → Prop} {loud : List Nat} {K : List Thing → Act → Prop} {l r : List Thing} {a : Act} {lo : List Oper} {ks : List Nat} {k : Nat} {dst : Option Tmp} {ty : TypeId} {pos : String} {after : Array Edge}
theorem wpO_bsR {x : Operand} {t e : TypeId} {c zs : Array Value} (ho : lo[k]? = some ⟨dst, .buildSlice t 1 #[(0, x)], ty, pos, after, none⟩) (hk : loud.contains k = true) (hx : a.eval x = .agg c)
    (hT : Try.prog.underlying t = some (.slice e) ∧ (Try.prog.info? e).map (fun i => (i.size, i.zero.map Value.cells)) = some (zs.size, some zs) ∧ 0 < zs.size ∧ zs.size ≤ 65536) (hv : c.size = zs.size)
    (hG : ∀ p, G (Cel p c e :: l)) (h : ∀ p, wpO Try.prog lo.toArray W G loud K ks (Cel p c e :: l) (a.put dst (.slice (some ⟨p, 0, none⟩) 1 1))) : wpO Try.prog lo.toArray W G loud K (k :: ks) l a := by
  refine wpO_loud ho hk ⟨rfl, fun w H => ⟨_, _, _, .inl ?_, H.alloc c e, hG _, h _⟩⟩
  unfold execOp
  simp only [List.map_toArray, List.map_cons, List.map_nil, hx, Sem.run_bind, run_buildSlice1 hT.1 hT.2.1 hT.2.2.1 hT.2.2.2 (.agg c) hv, Result.andThen_ok, Sem.run_pure]
  rfl
theorem wpO_append {t e size bytes : Nat} {z : Value} (T : SlTy Try.prog t e size bytes z) {s x : Operand} (ho : lo[k]? = some ⟨dst, .call { callee := .builtin .append, args := #[s, x], argTypes := #[t, t] }, ty, pos, after, none⟩) (hk : loud.contains k = true)
    {v : Value} {b m c n : Nat} {xs news : List Value} {cc : Array Value} {te : TypeId} (hs : a.eval s = v) (hx : a.eval x = .slice (some ⟨b, 0, none⟩) m c) (pl : Pull l (RowT e size v n xs) r) (mb : Cel b cc te ∈ l) (hnews : cc.toList = news)
    (hl : news.length = m * size) (h1 : OneCells news) (h63 : n + m ≤ maxLen) (hbytes : (n + m) * bytes ≤ 140737488355328)
    (hG : ∀ v', G (RowT e size v' (n + m) (xs ++ news) :: r)) (h : ∀ v', wpO Try.prog lo.toArray W G loud K ks (RowT e size v' (n + m) (xs ++ news) :: r) (a.put dst v')) : wpO Try.prog lo.toArray W G loud K (k :: ks) l a := by
  refine wpO_loud ho hk ⟨rfl, fun w H => ?_⟩
  have H2 := H.pull pl
  have hown : w.ownsRow 0 e size v n xs := H2.ok _ List.mem_cons_self
  have hrd := H.celRd mb
  rw [hnews] at hrd
  obtain ⟨i, hi, hz, hsz, hb⟩ := T.inf
  have hnw := hrd.addr
  obtain ⟨v1, w1, hr1, hbl⟩ := run_append_block w T ty 0 v n xs hown ⟨b, 0, none⟩ m c news hl hnw h1 h63 hbytes
  obtain ⟨v', w', hr, h2, h3, h4⟩ := run_append_own (P := Try.prog) w 0 t ty e i z size bytes T.und hi hz hsz hb T.zc T.pos v n xs hown ⟨b, 0, none⟩ m c news hl hnw h1 h63 hbytes (Nat.zero_le _)
  rw [hr1] at hr
  simp only [Result.ok.injEq] at hr
  obtain ⟨rfl, rfl⟩ := hr
  refine ⟨_, v1, w1, .inl ?_, H2.head h3 h2 ?_, hG _, h _⟩
  · unfold execOp
    simp only [resolve, invoke, builtin, Sem.run_bind, Sem.run_pure, Result.andThen_ok, List.map_toArray, List.map_cons, List.map_nil, hs, hx, hr1]
  · rcases hbl with hbl | hbl
    · exact .inl hbl
    · refine .inr fun j hj => ?_
      have h5 := ownsRow_fp h2 j hj
      have hj' : v1.ownBlock = some j := hj
      rw [hbl] at hj'
      cases hj'
      exact ⟨Nat.le_refl _, h5.2⟩
end
end Go.Proofs.Ytglehneaphigdaa
