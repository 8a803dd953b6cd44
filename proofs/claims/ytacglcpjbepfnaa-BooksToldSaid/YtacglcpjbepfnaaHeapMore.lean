/- More operations over a memory of things: slice literals. -/
import Derived.Test.YtacglcpjbepfnaaHeap
namespace Go.Proofs.Ytacglcpjbepfnaa
open Go.RowKit
set_option linter.unusedVariables false
set_option linter.unusedSimpArgs false
set_option maxRecDepth 100000
section
variable {ops : Array Oper} {rest : List Oper} {a : Act} {w W : World} {l : List Thing} {Q : Exit → Act → World → Prop}
/-- Slice literals of one-cell elements: the parts put in, one by one. -/
theorem fill_ones : ∀ (vs : List Value) (k : Nat) (pre post : List Value), pre.length = k → post.length = vs.length → (∀ v ∈ vs, v.cells = #[v]) → Instr.fill (fun i => some (i * 1, 1)) (pre ++ post).toArray (vs.zipIdx k |>.map fun (v, i) => (i, v)) = some (pre ++ vs).toArray
  | [], k, pre, post, hk, hl, _ => by
    have : post = [] := List.eq_nil_of_length_eq_zero (by simpa using hl)
    subst this; simp [Instr.fill]
  | v :: vs, k, pre, [], hk, hl, _ => by simp at hl
  | v :: vs, k, pre, y :: post, hk, hl, hv => by
    subst hk
    have h1 := hv v (List.mem_cons_self ..)
    simp only [List.zipIdx_cons, List.map_cons]
    unfold Instr.fill
    simp only [Nat.mul_one, h1, List.size_toArray, List.length_singleton, List.length_append, List.length_cons]
    rw [if_neg (by simp)]
    have e : (Array.foldl (fun (cs : Array Value) (x : Value × Nat) => cs.setIfInBounds (pre.length + x.2) x.1) (pre ++ y :: post).toArray (#[v] : Array Value).zipIdx) = ((pre ++ [v]) ++ post).toArray := by
      simp [List.set_append]
    rw [e]
    have := fill_ones vs (pre.length + 1) (pre ++ [v]) post (by simp) (by simpa using hl) (fun u hu => hv u (List.mem_cons_of_mem _ hu))
    simp only [Nat.mul_one] at this
    rw [this]
    simp
theorem wpl_bsOnes {dst : Option Tmp} {ty : TypeId} {pos : String} {after : Array Edge} {guard : Option (Nat × Bool)} {t e n : Nat} {z : Value} (xs : List (Nat × Operand)) (vs : List Value) (hw : Region.wanted ⟨dst, .buildSlice t n xs.toArray, ty, pos, after, guard⟩ (yielded ops a.tmps) = true)
    (hx : xs.map (fun (i, x) => (i, a.eval x)) = vs.zipIdx.map fun (v, i) => (i, v)) (hn : vs.length = n) (h0 : 0 < n) (h1 : n ≤ 65536) (hv : ∀ v ∈ vs, v.cells = #[v])
    (hT : Try.prog.underlying t = some (.slice e) ∧ (Try.prog.info? e).map (fun i => (i.size, i.zero)) = some (1, some z)) (hz : z.cells.size = 1)
    (H : Heap W l w) (h : ∀ p w', Heap W (Cel p vs.toArray e :: l) w' → wpList Try.prog ops Q rest (a.put dst (.slice (some ⟨p, 0, none⟩) n n)) w') : wpList Try.prog ops Q (⟨dst, .buildSlice t n xs.toArray, ty, pos, after, guard⟩ :: rest) a w := by
  obtain ⟨i, hi, he⟩ := Option.map_eq_some_iff.1 hT.2
  simp only [Prod.mk.injEq] at he
  have r1 : (sizeOf e).run Try.prog w = .ok 1 w := by simp [sizeOf, typeInfo, hi, he.1, go_sem]
  have r2 : (zeroValue e).run Try.prog w = .ok z w := by simp [zeroValue, typeInfo, hi, he.2, go_sem]
  have hf : Instr.fill (fun i => some (i * 1, 1)) (Array.map (fun x => z.cells[x % z.cells.size]!) (Array.range (n * 1))) (xs.toArray.map (fun (i, x) => (i, a.eval x))).toList = some vs.toArray := by
    have hx2 : (xs.toArray.map (fun (i, x) => (i, a.eval x))).toList = vs.zipIdx.map fun (v, i) => (i, v) := by rw [← hx]; simp
    rw [hx2]
    have := fill_ones vs 0 [] (List.map (fun x => z.cells[x % z.cells.size]!) (List.range (n * 1))) rfl (by simp [hn]) hv
    simp only [List.nil_append] at this
    rw [← this]
    congr 1
    apply Array.ext'
    simp
  refine BigFrame.wpList_want hw fun K hK => ?_
  have hrun : (Instr.buildSlice t n (xs.toArray.map fun (i, x) => (i, a.eval x))).run Try.prog w = .ok (.slice (some ⟨w.heap.size, 0, none⟩) n n) (w.alloc (.cells vs.toArray e)) := by
    unfold Instr.buildSlice
    rw [Sem.run_bind, run_underlying hT.1]
    simp only [Result.andThen_ok]
    rw [Sem.run_bind, r1]
    simp only [Result.andThen_ok]
    rw [if_neg (by omega), if_neg (by omega)]
    simp only [Sem.run_bind, r2, Result.andThen_ok, Sem.run_pure]
    rw [hf]
    simp [newRow, go_sem]
  unfold Oper.wp execOp
  simp only [Sem.run_bind, hrun, Result.andThen_ok, Sem.run_pure]
  exact hK _ _ (h _ _ (H.alloc _ _))
theorem rd_block {w : World} {b o : Nat} {xs : List Value} (R : Rd w (some ⟨b, o, none⟩) xs) {k n : Nat} (hn : k + n ≤ xs.length) (h0 : 0 < n) :
    ∃ cs t f, w.heap[b]? = some (.cells cs t f) ∧ o + k + n ≤ cs.size ∧ cs.extract (o + k) (o + k + n) = ((xs.drop k).take n).toArray := by
  have hc := R.get (i := k) (by omega)
  simp only [World.cell?, if_true] at hc
  cases hb : w.heap[b]? with
  | none => rw [hb] at hc; cases hc
  | some ob =>
    rw [hb] at hc
    cases ob <;> first | (cases hc; done) | skip
    rename_i cs t f
    have hget : ∀ i, i < xs.length → cs[o + i]? = xs[i]? := by
      intro i hi
      have h1 := R.get hi
      simp only [World.cell?, if_true, hb] at h1
      have h2 : cs[o + i]? = some xs[i] := by simpa using h1
      rw [h2]; simp [hi]
    have hlast := hget (k + n - 1) (by omega)
    have hsz : o + (k + n - 1) < cs.size := by
      rw [List.getElem?_eq_getElem (by omega)] at hlast
      exact (Array.getElem?_eq_some_iff.1 hlast).1
    refine ⟨cs, t, f, rfl, by omega, ?_⟩
    apply Array.ext_getElem?
    intro j
    rw [Array.getElem?_extract]
    by_cases hj : j < n
    · rw [if_pos (by omega), show o + k + j = o + (k + j) by omega, hget _ (by omega)]
      simp [List.getElem?_take, hj]
    · rw [if_neg (by omega)]
      simp [List.getElem?_take, hj]
theorem wpl_loadRdR {T n : Nat} {z : Array Value} {dst : Option Tmp} {ty : TypeId} {pos : String} {after : Array Edge} {guard : Option (Nat × Bool)} {x : Operand} {b off : Nat} (RT : RowTy T n z) (hw : Region.wanted ⟨dst, .load T x, ty, pos, after, guard⟩ (yielded ops a.tmps) = true) (hx : a.eval x = .pointer (some ⟨b, off, none⟩))
    {o k : Nat} {xs : List Value} {c1 : Array Value} (R : Rd w (some ⟨b, o, none⟩) xs) (hk : off = o + k) (hn : k + n ≤ xs.length) (h0 : 0 < n) (hv : ((xs.drop k).take n).toArray = c1) (h : wpList Try.prog ops Q rest (a.put dst (.agg c1)) w) : wpList Try.prog ops Q (⟨dst, .load T x, ty, pos, after, guard⟩ :: rest) a w := by
  subst hk
  obtain ⟨cs, t, f, hb, hs, he⟩ := rd_block R hn h0
  exact wpl_loadR RT hw hx hb hs (he.trans hv) h
end
end Go.Proofs.Ytacglcpjbepfnaa
