/- Part 2 of what ProofNettingsPlay stands on: HeapMore, HeapOwn, Cells, Open03, Open13, Open13L, Map, Ledger, LedMap, LedPos, LedSet. -/
import Derived.Test.YtgobnamhdkbbeaaGreatNetPPart1
import Derived.Lib.AppendZeros
import Derived.Laws.MakeOwn
import Derived.Laws.OwnMore
import Derived.Lib.BufferMore
import Derived.Maps.RangeRun
import Derived.DeepKeys4
import Derived.RowKit
/- More operations over a memory of things: slice literals. -/
namespace Go.Proofs.YtgobnamhdkbbeaaGreat
open Go.RowKit
set_option linter.unusedVariables false
set_option linter.unusedSimpArgs false
set_option maxRecDepth 100000
section
variable {ops : Array Oper} {rest : List Oper} {a : Act} {w W : World} {l : List Thing} {Q : Exit → Act → World → Prop}
/-- Slice literals of one-cell elements: the parts put in, one by one. -/
theorem fill_ones : ∀ (vs : List Value) (k : Nat) (pre post : List Value), pre.length = k → post.length = vs.length → (∀ v ∈ vs, v.cells = #[v]) → Instr.fill (fun i => some (i * 1, 1)) (pre ++ post).toArray (vs.zipIdx k |>.map fun (v, i) => (i, v)) = some (pre ++ vs).toArray
  | [], k, pre, post, hk, hl, _ => by
    have : post = [] := List.eq_nil_of_length_eq_zero (by simpa using hl)
    subst this; simp [Instr.fill]
  | v :: vs, k, pre, [], hk, hl, _ => by simp at hl
  | v :: vs, k, pre, y :: post, hk, hl, hv => by
    subst hk
    have h1 := hv v (List.mem_cons_self ..)
    simp only [List.zipIdx_cons, List.map_cons]
    unfold Instr.fill
    simp only [Nat.mul_one, h1, List.size_toArray, List.length_singleton, List.length_append, List.length_cons]
    rw [if_neg (by simp)]
    have e : (Array.foldl (fun (cs : Array Value) (x : Value × Nat) => cs.setIfInBounds (pre.length + x.2) x.1) (pre ++ y :: post).toArray (#[v] : Array Value).zipIdx) = ((pre ++ [v]) ++ post).toArray := by
      simp [List.set_append]
    rw [e]
    have := fill_ones vs (pre.length + 1) (pre ++ [v]) post (by simp) (by simpa using hl) (fun u hu => hv u (List.mem_cons_of_mem _ hu))
    simp only [Nat.mul_one] at this
    rw [this]
    simp
theorem wpl_bsOnes {dst : Option Tmp} {ty : TypeId} {pos : String} {after : Array Edge} {guard : Option (Nat × Bool)} {t e n : Nat} {z : Value} (xs : List (Nat × Operand)) (vs : List Value) (hw : Region.wanted ⟨dst, .buildSlice t n xs.toArray, ty, pos, after, guard⟩ (yielded ops a.tmps) = true)
    (hx : xs.map (fun (i, x) => (i, a.eval x)) = vs.zipIdx.map fun (v, i) => (i, v)) (hn : vs.length = n) (h0 : 0 < n) (h1 : n ≤ 65536) (hv : ∀ v ∈ vs, v.cells = #[v])
    (hT : Tryz.prog.underlying t = some (.slice e) ∧ (Tryz.prog.info? e).map (fun i => (i.size, i.zero)) = some (1, some z)) (hz : z.cells.size = 1)
    (H : Heap W l w) (h : ∀ p w', Heap W (Cel p vs.toArray e :: l) w' → wpList Tryz.prog ops Q rest (a.put dst (.slice (some ⟨p, 0, none⟩) n n)) w') : wpList Tryz.prog ops Q (⟨dst, .buildSlice t n xs.toArray, ty, pos, after, guard⟩ :: rest) a w := by
  obtain ⟨i, hi, he⟩ := Option.map_eq_some_iff.1 hT.2
  simp only [Prod.mk.injEq] at he
  have r1 : (sizeOf e).run Tryz.prog w = .ok 1 w := by simp [sizeOf, typeInfo, hi, he.1, go_sem]
  have r2 : (zeroValue e).run Tryz.prog w = .ok z w := by simp [zeroValue, typeInfo, hi, he.2, go_sem]
  have hf : Instr.fill (fun i => some (i * 1, 1)) (Array.map (fun x => z.cells[x % z.cells.size]!) (Array.range (n * 1))) (xs.toArray.map (fun (i, x) => (i, a.eval x))).toList = some vs.toArray := by
    have hx2 : (xs.toArray.map (fun (i, x) => (i, a.eval x))).toList = vs.zipIdx.map fun (v, i) => (i, v) := by rw [← hx]; simp
    rw [hx2]
    have := fill_ones vs 0 [] (List.map (fun x => z.cells[x % z.cells.size]!) (List.range (n * 1))) rfl (by simp [hn]) hv
    simp only [List.nil_append] at this
    rw [← this]
    congr 1
    apply Array.ext'
    simp
  refine BigFrame.wpList_want hw fun K hK => ?_
  have hrun : (Instr.buildSlice t n (xs.toArray.map fun (i, x) => (i, a.eval x))).run Tryz.prog w = .ok (.slice (some ⟨w.heap.size, 0, none⟩) n n) (w.alloc (.cells vs.toArray e)) := by
    unfold Instr.buildSlice
    rw [Sem.run_bind, run_underlying hT.1]
    simp only [Result.andThen_ok]
    rw [Sem.run_bind, r1]
    simp only [Result.andThen_ok]
    rw [if_neg (by omega), if_neg (by omega)]
    simp only [Sem.run_bind, r2, Result.andThen_ok, Sem.run_pure]
    rw [hf]
    simp [newRow, go_sem]
  unfold Oper.wp execOp
  simp only [Sem.run_bind, hrun, Result.andThen_ok, Sem.run_pure]
  exact hK _ _ (h _ _ (H.alloc _ _))
theorem rd_block {w : World} {b o : Nat} {xs : List Value} (R : Rd w (some ⟨b, o, none⟩) xs) {k n : Nat} (hn : k + n ≤ xs.length) (h0 : 0 < n) :
    ∃ cs t f, w.heap[b]? = some (.cells cs t f) ∧ o + k + n ≤ cs.size ∧ cs.extract (o + k) (o + k + n) = ((xs.drop k).take n).toArray := by
  have hc := R.get (i := k) (by omega)
  simp only [World.cell?, if_true] at hc
  cases hb : w.heap[b]? with
  | none => rw [hb] at hc; cases hc
  | some ob =>
    rw [hb] at hc
    cases ob <;> first | (cases hc; done) | skip
    rename_i cs t f
    have hget : ∀ i, i < xs.length → cs[o + i]? = xs[i]? := by
      intro i hi
      have h1 := R.get hi
      simp only [World.cell?, if_true, hb] at h1
      have h2 : cs[o + i]? = some xs[i] := by simpa using h1
      rw [h2]; simp [hi]
    have hlast := hget (k + n - 1) (by omega)
    have hsz : o + (k + n - 1) < cs.size := by
      rw [List.getElem?_eq_getElem (by omega)] at hlast
      exact (Array.getElem?_eq_some_iff.1 hlast).1
    refine ⟨cs, t, f, rfl, by omega, ?_⟩
    apply Array.ext_getElem?
    intro j
    rw [Array.getElem?_extract]
    by_cases hj : j < n
    · rw [if_pos (by omega), show o + k + j = o + (k + j) by omega, hget _ (by omega)]
      simp [List.getElem?_take, hj]
    · rw [if_neg (by omega)]
      simp [List.getElem?_take, hj]
theorem wpl_loadRdR {T n : Nat} {z : Array Value} {dst : Option Tmp} {ty : TypeId} {pos : String} {after : Array Edge} {guard : Option (Nat × Bool)} {x : Operand} {b off : Nat} (RT : RowTy T n z) (hw : Region.wanted ⟨dst, .load T x, ty, pos, after, guard⟩ (yielded ops a.tmps) = true) (hx : a.eval x = .pointer (some ⟨b, off, none⟩))
    {o k : Nat} {xs : List Value} {c1 : Array Value} (R : Rd w (some ⟨b, o, none⟩) xs) (hk : off = o + k) (hn : k + n ≤ xs.length) (h0 : 0 < n) (hv : ((xs.drop k).take n).toArray = c1) (h : wpList Tryz.prog ops Q rest (a.put dst (.agg c1)) w) : wpList Tryz.prog ops Q (⟨dst, .load T x, ty, pos, after, guard⟩ :: rest) a w := by
  subst hk
  obtain ⟨cs, t, f, hb, hs, he⟩ := rd_block R hn h0
  exact wpl_loadR RT hw hx hb hs (he.trans hv) h
end
end Go.Proofs.YtgobnamhdkbbeaaGreat

/- Slices of one's own over a memory of things: rows that grow by append. -/
namespace Go.Proofs.YtgobnamhdkbbeaaGreat
open Go.RowKit
set_option linter.unusedSimpArgs false
set_option linter.unusedVariables false
theorem slTy_mk {P : Program} {t e size bytes : Nat} {z : Value} (h1 : P.underlying t = some (.slice e)) (h2 : (P.info? e).map (fun i => (i.zero, i.size, i.bytes)) = some (some z, size, bytes))
    (h3 : z.cells.size = size) (h4 : 0 < size) : SlTy P t e size bytes z := by
  obtain ⟨j, hj, he⟩ := Option.map_eq_some_iff.1 h2
  simp only [Prod.mk.injEq] at he
  exact ⟨h1, ⟨j, hj, he.1, he.2.1, he.2.2⟩, h3, h4⟩
def OneCells (cs : List Value) : Prop := ∀ u ∈ cs, u.oneCell' = true
theorem ownsRow_fp {w : World} {b e size : Nat} {v : Value} {n : Nat} {xs : List Value} (h : w.ownsRow b e size v n xs) : ∀ k, v.ownBlock = some k → b ≤ k ∧ k < w.heap.size := by
  obtain ⟨h1, ⟨rfl, _⟩ | ⟨g, cap, cur, rfl, hg, hh, r⟩⟩ := h
  · intro k hk; cases hk
  · intro k hk
    obtain rfl : g = k := by simpa [Value.ownBlock] using hk
    exact ⟨hg, (Array.getElem?_eq_some_iff.1 hh).1⟩
theorem Heap.celRd {W w : World} {l : List Thing} (H : Heap W l w) {p : Nat} {c : Array Value} {t : TypeId} (m : Cel p c t ∈ l) : Rd w (some ⟨p, 0, none⟩) c.toList := by
  intro i hi
  refine ⟨p, 0, rfl, ?_⟩
  rw [cell_of_row w p (0 + i) c t _ (H.blk m)]
  simp at hi
  simp [hi]
/-- A nil slice is a row of nothing. -/
theorem Heap.nilRow {W w : World} {l : List Thing} (e size : Nat) (H : Heap W l w) : Heap W (RowT e size (.slice none 0 0) 0 [] :: l) w :=
  H.add (World.grownBy.refl _ _) ⟨by simp, .inl ⟨rfl, rfl⟩⟩ (fun k hk => by cases hk)
section
variable {ops : Array Oper} {rest : List Oper} {o : Oper} {a : Act} {w W : World} {l : List Thing} {Q : Exit → Act → World → Prop}
/-- append(s, x...) to a row of one's own. -/
theorem wpl_appendH {t e size bytes : Nat} {z : Value} (T : SlTy Tryz.prog t e size bytes z) (hgd : o.guard = none) {s x : Operand}
    (ho : o.op = .call { callee := .builtin .append, args := #[s, x], argTypes := #[t, t] }) {v : Value} (hs : a.eval s = v) {b off m c : Nat} (hx : a.eval x = .slice (some ⟨b, off, none⟩) m c)
    {n : Nat} {xs news : List Value} (H : Heap W (RowT e size v n xs :: l) w) (hrd : Rd w (some ⟨b, off, none⟩) news) (hl : news.length = m * size) (h1 : OneCells news)
    (h63 : n + m ≤ maxLen) (hbytes : (n + m) * bytes ≤ 140737488355328)
    (h : ∀ v' w', Heap W (RowT e size v' (n + m) (xs ++ news) :: l) w' → wpList Tryz.prog ops Q rest (a.put o.dst v') w') : wpList Tryz.prog ops Q (o :: rest) a w := by
  refine wpl_appendB hgd s x t ho T 0 v n xs hs (H.ok _ List.mem_cons_self) b off m c news hx hl hrd h1 h63 hbytes (Nat.zero_le _) ?_
  intro v' w' hown hg hbl
  refine h v' w' (H.head hg hown ?_)
  rcases hbl with hbl | hbl
  · exact .inl hbl
  · refine .inr fun k hk => ?_
    have h2 := ownsRow_fp hown k hk
    have hk' : v'.ownBlock = some k := hk
    rw [hbl] at hk'
    cases hk'
    exact ⟨Nat.le_refl _, h2.2⟩
end
end Go.Proofs.YtgobnamhdkbbeaaGreat

/- Rows of cells by their numbers; kinds of cells; a list that is answered. -/
namespace Go.Proofs.YtgobnamhdkbbeaaGreat
open Go.RowKit
theorem cell_i64 : CellTy 2 := ⟨⟨_, Tryz.underlying2, rfl⟩, by kernel_rfl⟩
theorem cell_bool : CellTy 4 := ⟨⟨_, Tryz.underlying4, rfl⟩, by kernel_rfl⟩
theorem cell_party : CellTy 30 := ⟨⟨_, Tryz.underlying30, rfl⟩, by kernel_rfl⟩
/-- A row of n cells. -/
def tab (n : Nat) (f : Nat → Value) : Array Value := Array.ofFn (n := n) fun i => f i.val
theorem tab_size (n : Nat) (f : Nat → Value) : (tab n f).size = n := by simp [tab]
theorem tab_get {n i : Nat} (f : Nat → Value) (h : i < n) : (tab n f)[i]? = some (f i) := by simp [tab, h]
theorem tab_set {n i : Nat} (f : Nat → Value) (v : Value) (h : i < n) : (tab n f).setIfInBounds i v = tab n fun j => if j = i then v else f j := by
  apply Array.ext_getElem?
  intro j
  rw [Array.getElem?_setIfInBounds]
  by_cases hj : j < n
  · rw [tab_get _ hj]
    by_cases e : i = j
    · subst e; rw [if_pos rfl, if_pos (by rw [tab_size]; exact h), tab_get _ hj]; simp
    · rw [if_neg e, tab_get _ hj, if_neg (fun h => e h.symm)]
  · have h1 : ∀ g : Nat → Value, (tab n g)[j]? = none := fun g => by simp [tab, hj]
    rw [h1, h1]
    split
    · rw [if_neg (by rw [tab_size]; omega)]
    · rfl
theorem tab_ext {n m lo : Nat} (f : Nat → Value) (h : lo + m ≤ n) : (tab n f).extract lo (lo + m) = tab m fun j => f (lo + j) := by
  apply Array.ext_getElem?
  intro j
  rw [Array.getElem?_extract]
  by_cases hj : j < m
  · rw [tab_get _ hj, if_pos (by rw [tab_size]; omega), tab_get _ (by omega)]
  · rw [if_neg (by omega)]
    simp [tab, hj]
theorem tab_congr {n : Nat} {f g : Nat → Value} (h : ∀ i, i < n → f i = g i) : tab n f = tab n g := by
  apply Array.ext_getElem?
  intro j
  by_cases hj : j < n
  · rw [tab_get _ hj, tab_get _ hj, h j hj]
  · simp [tab, hj]
/-- A list that is answered: nil, if it is empty; else it lies in a block of its own. -/
def ListPost (W : World) (l : List Thing) (e size : Nat) (xs : List Value) (n : Nat) (r : Ending) (w' : World) : Prop :=
  (n = 0 ∧ r = .returned (.slice none 0 0) ∧ Heap W l w') ∨ (0 < n ∧ ∃ g c, r = .returned (.slice (some ⟨g, 0, none⟩) n n) ∧ n ≤ c ∧ Heap W (Sl g e size n c xs :: l) w')
theorem ListPost.nil {W : World} {l : List Thing} {e size n : Nat} {xs : List Value} {w' : World} (h : n = 0) (H : Heap W l w') : ListPost W l e size xs n (.returned (.slice none 0 0)) w' := .inl ⟨h, rfl, H⟩
theorem ListPost.some {W : World} {l : List Thing} {e size n : Nat} {xs : List Value} {w' : World} (h : 0 < n) (g c : Nat) (hc : n ≤ c) (H : Heap W (Sl g e size n c xs :: l) w') : ListPost W l e size xs n (.returned (.slice (some ⟨g, 0, none⟩) n n)) w' := .inr ⟨h, g, c, rfl, hc, H⟩
end Go.Proofs.YtgobnamhdkbbeaaGreat

/- Acts on a ledger as arguments. -/
namespace Go.Proofs.YtgobnamhdkbbeaaGreat
open Go.ChangeShapes Go.WideShapes Go.ChangeAt Go.RowKit
set_option linter.unusedVariables false
set_option maxRecDepth 100000
theorem leaf_cur {w : World} {v : Value} (h : ∀ d, LeafOk Tryz.prog w d 31 v) : ∃ n : Nat, v = .int .u8 n ∧ n ≤ 255 := by
  obtain ⟨n, rfl, hw⟩ := leaf_int Tryz.underlying31 h
  have := bounds_u8 hw
  exact ⟨n.toNat, by rw [Int.toNat_of_nonneg this.1], by omega⟩
theorem leaf_u8 {w : World} {v : Value} (h : ∀ d, LeafOk Tryz.prog w d 5 v) : ∃ n : Nat, v = .int .u8 n ∧ n ≤ 255 := by
  obtain ⟨n, rfl, hw⟩ := leaf_int Tryz.underlying5 h
  have := bounds_u8 hw
  exact ⟨n.toNat, by rw [Int.toNat_of_nonneg this.1], by omega⟩
/-- An act on a ledger. -/
structure LAct where
  k : Nat
  a : Nat
  b : Nat
  c : Nat
  n : Int
abbrev act (k : Int) (a : Int) (b : Int) (c : Int) (n : Int) : Array Value := #[.int .u8 k, .int .u8 a, .int .u8 b, .int .u8 c, .int .i64 n]
section
variable (k : Int) (a : Int) (b : Int) (c : Int) (n : Int)
theorem act_g0 : (act k a b c n)[0]? = some (.int .u8 k) := rfl
theorem act_g1 : (act k a b c n)[1]? = some (.int .u8 a) := rfl
theorem act_g2 : (act k a b c n)[2]? = some (.int .u8 b) := rfl
theorem act_g3 : (act k a b c n)[3]? = some (.int .u8 c) := rfl
theorem act_g4 : (act k a b c n)[4]? = some (.int .i64 n) := rfl
end
def actV (x : LAct) : List Value := [.int .u8 (x.k : Int), .int .u8 (x.a : Int), .int .u8 (x.b : Int), .int .u8 (x.c : Int), .int .i64 x.n]
def actL (F : List LAct) : List Value := F.flatMap actV
theorem actL_len (F : List LAct) : (actL F).length = F.length * 5 := by
  induction F with
  | nil => rfl
  | cons x F ih => simp only [actL, List.flatMap_cons, List.length_append] at *; rw [ih]; simp [actV, Nat.add_mul]; omega
theorem actL_at (F : List LAct) (i : Nat) (h : i < F.length) : ((actL F).drop (i * 5)).take 5 = actV F[i] := by
  induction F generalizing i with
  | nil => simp at h
  | cons x F ih =>
    rcases i with _ | i
    · simp [actL, actV]
    · have : (i + 1) * 5 = 5 + i * 5 := by omega
      rw [this, ← List.drop_drop]
      simp only [List.length_cons] at h
      have := ih i (by omega)
      simpa [actL, actV] using this
abbrev actA (x : LAct) : Array Value := act (x.k : Int) (x.a : Int) (x.b : Int) (x.c : Int) x.n
theorem actL_row (F : List LAct) (i : Nat) (h : i < F.length) : (((actL F).drop (i * 5)).take 5).toArray = actA F[i] := by rw [actL_at F i h]; rfl
def ActOk (x : LAct) : Prop := x.k ≤ 255 ∧ x.a ≤ 255 ∧ x.b ≤ 255 ∧ x.c ≤ 255 ∧ (-9223372036854775808 ≤ x.n ∧ x.n ≤ 9223372036854775807)
theorem row_act : RowTy 33 5 (act 0 0 0 0 0) := ⟨⟨_, Tryz.underlying33, rfl⟩, by kernel_rfl, by kernel_rfl⟩
theorem flat_act : flat Tryz.prog 9 33 = some [5, 30, 30, 31, 2] := by kernel_rfl
structure ActsArg (w : World) (a : Option Addr) (n c : Nat) (F : List LAct) : Prop where
  len : F.length = n
  cap : n ≤ c
  max : c ≤ maxLen
  rd : Rd w a (actL F)
  ok : ∀ x ∈ F, ActOk x
theorem act_cellsOf : Tryz.prog.cellsOf 33 = 5 := by kernel_rfl
theorem acts_of {w : World} : ∀ (n : Nat) (xs : List Value), xs.length = n * 5 → (∀ (i j : Nat) (u : TypeId), i < n → ([5, 30, 30, 31, 2] : List TypeId)[j]? = some u → ∃ v, xs[i * 5 + j]? = some v ∧ ∀ d, LeafOk Tryz.prog w d u v) → ∃ F : List LAct, F.length = n ∧ xs = actL F ∧ ∀ x ∈ F, ActOk x
  | 0, xs, hl, _ => ⟨[], rfl, by simpa [actL] using hl, by simp⟩
  | n + 1, xs, hl, h => by
    rcases xs with _ | ⟨c0, _ | ⟨c1, _ | ⟨c2, _ | ⟨c3, _ | ⟨c4, ys⟩⟩⟩⟩⟩
    · simp at hl
    · simp at hl; omega
    · simp at hl; omega
    · simp at hl; omega
    · simp at hl; omega
    · obtain ⟨x0, h0, k0⟩ := h 0 0 _ (by omega) rfl
      obtain ⟨x1, h1, k1⟩ := h 0 1 _ (by omega) rfl
      obtain ⟨x2, h2, k2⟩ := h 0 2 _ (by omega) rfl
      obtain ⟨x3, h3, k3⟩ := h 0 3 _ (by omega) rfl
      obtain ⟨x4, h4, k4⟩ := h 0 4 _ (by omega) rfl
      simp at h0 h1 h2 h3 h4
      subst h0 h1 h2 h3 h4
      obtain ⟨w0, rfl, q0⟩ := leaf_u8 k0
      obtain ⟨w1, rfl, q1⟩ := leaf_party k1
      obtain ⟨w2, rfl, q2⟩ := leaf_party k2
      obtain ⟨w3, rfl, q3⟩ := leaf_cur k3
      obtain ⟨w4, rfl, q4⟩ := leaf_i64 k4
      obtain ⟨F, hF, rfl, hok⟩ := acts_of n ys (by simp at hl; omega) (fun i j u hi hj => by
        obtain ⟨v, hv, hk⟩ := h (i + 1) j u (by omega) hj
        refine ⟨v, ?_, hk⟩
        rw [show (i + 1) * 5 + j = (i * 5 + j) + 5 by omega] at hv
        simpa using hv)
      exact ⟨⟨w0, w1, w2, w3, w4⟩ :: F, by simp [hF], by simp [actL, actV], fun x hx => by
        rcases List.mem_cons.1 hx with rfl | hx
        · exact ⟨q0, q1, q2, q3, q4⟩
        · exact hok x hx⟩
theorem open_acts {H : Type} {enc : TypeId × Value → H} {W : World} {held : Bool} {v : Value} {d : DataW H} {p : List MemPlace} {r : Reach} {b0 : Nat}
    (hval : Value.okWide Tryz.prog W r b0 22 v) (h : DataW.Trod enc Tryz.prog W 0 (fun _ => true) held 22 v d p) : ∃ a n c F, v = .slice a n c ∧ ActsArg W a n c F := by
  have hk := fun d => open_sl Tryz.underlying22 hval h d
  obtain ⟨a, n, c, xs, rfl, hn, hc, hl, hr, _, hp⟩ := leaf_slice Tryz.underlying22 flat_act hk
  rw [act_cellsOf] at hl hp
  obtain ⟨F, hF, rfl, hok⟩ := acts_of (w := W) n xs hl hp
  exact ⟨a, n, c, F, rfl, hF, hn, hc, hr, hok⟩
def ActsV (w : World) (v : Value) : Prop := ∃ a n c F, v = .slice a n c ∧ ActsArg w a n c F
theorem open_actsV {H : Type} {enc : TypeId × Value → H} {W : World} {held : Bool} {v : Value} {d : DataW H} {p : List MemPlace} {r : Reach} {b0 : Nat}
    (hval : Value.okWide Tryz.prog W r b0 22 v) (h : DataW.Trod enc Tryz.prog W 0 (fun _ => true) held 22 v d p) : ActsV W v := open_acts hval h
end Go.Proofs.YtgobnamhdkbbeaaGreat

/- An Ask for a netting in memory, and as an argument. -/
namespace Go.Proofs.YtgobnamhdkbbeaaGreat
open Go.ChangeShapes Go.WideShapes Go.ChangeAt Go.RowKit
set_option linter.unusedVariables false
set_option maxRecDepth 100000
structure Ask13 where
  c : Nat
  q : Int
abbrev ask13 (c : Int) (q : Int) : Array Value := #[.int .u8 c, .int .i64 q]
section
variable (c : Int) (q : Int)
theorem ask13_sz : (ask13 c q).size = 2 := rfl
theorem ask13_g0 : (ask13 c q)[0]? = some (.int .u8 c) := rfl
theorem ask13_g1 : (ask13 c q)[1]? = some (.int .i64 q) := rfl
end
abbrev askN (x : Ask13) : Array Value := ask13 (x.c : Int) x.q
def AskNOk (x : Ask13) : Prop := x.c ≤ 255 ∧ (-9223372036854775808 ≤ x.q ∧ x.q ≤ 9223372036854775807)
theorem row_ask13 : RowTy 35 2 (ask13 0 0) := ⟨⟨_, Tryz.underlying35, rfl⟩, by kernel_rfl, by kernel_rfl⟩
theorem ask13_cells (c q : Int) : Cells 2 (ask13 c q) := ⟨rfl, by simp [Value.oneCell']⟩
theorem ask13_splice (c q c' q' : Int) : splice (ask13 c q) 0 (ask13 c' q') = ask13 c' q' := splice_all rfl
theorem flat_ask13 : flat Tryz.prog 9 35 = some [31, 2] := by kernel_rfl
end Go.Proofs.YtgobnamhdkbbeaaGreat

/- Lists of Asks for nettings, as arguments. -/
namespace Go.Proofs.YtgobnamhdkbbeaaGreat
open Go.ChangeShapes Go.WideShapes Go.ChangeAt Go.RowKit
set_option linter.unusedVariables false
set_option maxRecDepth 100000
abbrev askNV (x : Ask13) : List Value := (askN x).toList
def askNL (F : List Ask13) : List Value := F.flatMap askNV
theorem askNL_len (F : List Ask13) : (askNL F).length = F.length * 2 := by
  induction F with
  | nil => rfl
  | cons x F ih => simp only [askNL, List.flatMap_cons, List.length_append] at *; rw [ih]; simp [askNV, Nat.add_mul]; omega
theorem askNL_at (F : List Ask13) (i : Nat) (h : i < F.length) : ((askNL F).drop (i * 2)).take 2 = askNV F[i] := by
  induction F generalizing i with
  | nil => simp at h
  | cons x F ih =>
    cases i with
    | zero => simp [askNL, askNV]
    | succ i =>
      have e : (i + 1) * 2 = i * 2 + 2 := by omega
      have e2 : askNL (x :: F) = askNV x ++ askNL F := rfl
      rw [e, e2, show i * 2 + 2 = (askNV x).length + i * 2 by simp [askNV]; omega, ← List.drop_drop, List.drop_left]
      simpa using ih i (by simpa using h)
theorem askNL_row (F : List Ask13) (i : Nat) (h : i < F.length) : (((askNL F).drop (i * 2)).take 2).toArray = askN F[i] := by rw [askNL_at F i h]
theorem ask13_cellsOf : Tryz.prog.cellsOf 35 = 2 := by kernel_rfl
structure AsksNArg (w : World) (a : Option Addr) (n c : Nat) (F : List Ask13) : Prop where
  len : F.length = n
  cap : n ≤ c
  max : c ≤ maxLen
  rd : Rd w a (askNL F)
  ok : ∀ x ∈ F, AskNOk x
theorem asksN_of {w : World} : ∀ (n : Nat) (xs : List Value), xs.length = n * 2 → (∀ (i j : Nat) (u : TypeId), i < n → ([31, 2] : List TypeId)[j]? = some u → ∃ v, xs[i * 2 + j]? = some v ∧ ∀ d, LeafOk Tryz.prog w d u v) → ∃ F : List Ask13, F.length = n ∧ xs = askNL F ∧ ∀ x ∈ F, AskNOk x
  | 0, xs, hl, _ => ⟨[], rfl, by simpa [askNL] using hl, by simp⟩
  | n + 1, xs, hl, h => by
    rcases xs with _ | ⟨c0, _ | ⟨c1, ys⟩⟩
    · simp at hl
    · simp at hl; omega
    · obtain ⟨x0, h0, k0⟩ := h 0 0 _ (by omega) rfl
      obtain ⟨x1, h1, k1⟩ := h 0 1 _ (by omega) rfl
      simp at h0 h1
      subst h0 h1
      obtain ⟨w0, rfl, q0⟩ := leaf_cur k0
      obtain ⟨w1, rfl, q1⟩ := leaf_i64 k1
      obtain ⟨F, hF, rfl, hok⟩ := asksN_of n ys (by simp at hl; omega) (fun i j u hi hj => by
        obtain ⟨v, hv, hk⟩ := h (i + 1) j u (by omega) hj
        refine ⟨v, ?_, hk⟩
        rw [show (i + 1) * 2 + j = (i * 2 + j) + 2 by omega] at hv
        simpa using hv)
      exact ⟨⟨w0, w1⟩ :: F, by simp [hF], by simp [askNL, askNV], fun x hx => by
        rcases List.mem_cons.1 hx with rfl | hx
        · exact ⟨q0, q1⟩
        · exact hok x hx⟩
def AsksNV (w : World) (v : Value) : Prop := ∃ a n c F, v = .slice a n c ∧ AsksNArg w a n c F
theorem open_asksNV {H : Type} {enc : TypeId × Value → H} {W : World} {held : Bool} {v : Value} {d : DataW H} {p : List MemPlace} {r : Reach} {b0 : Nat}
    (hval : Value.okWide Tryz.prog W r b0 23 v) (h : DataW.Trod enc Tryz.prog W 0 (fun _ => true) held 23 v d p) : AsksNV W v := by
  have hk := fun d => open_sl Tryz.underlying23 hval h d
  obtain ⟨a, n, c, xs, rfl, hn, hc, hl, hr, _, hp⟩ := leaf_slice Tryz.underlying23 flat_ask13 hk
  rw [ask13_cellsOf] at hl hp
  obtain ⟨F, hF, rfl, hok⟩ := asksN_of (w := W) n xs hl hp
  exact ⟨a, n, c, F, rfl, hF, hn, hc, hr, hok⟩
end Go.Proofs.YtgobnamhdkbbeaaGreat

/- Maps as things: what they hold known up to the order of their entries. -/
namespace Go.Proofs.YtgobnamhdkbbeaaGreat
open Go.RowKit
set_option linter.unusedSimpArgs false
set_option linter.unusedVariables false
set_option maxRecDepth 100000

/-- What the laws need of a kind of keys. -/
structure KeyTy (k : TypeId) (KS : Value → Prop) : Prop where
  check : ∀ (w : World) (em : Bool) {v : Value}, KS v → (Instr.checkKey em 10000 k v).run Tryz.prog w = .ok () w
  find : ∀ (w : World) {x : Value}, KS x → ∀ es : List MapEntry, (∀ e ∈ es, KS e.key) →
    ((Instr.findKey k x es).run Tryz.prog w = .ok none w ∧ ∀ e ∈ es, e.key ≠ x) ∨ ∃ j e, (Instr.findKey k x es).run Tryz.prog w = .ok (some (j, e.val)) w ∧ es[j]? = some e ∧ e.key = x
  stays : ∀ (w : World) {v : Value}, KS v → (Instr.keyThatStays v v).run Tryz.prog w = .ok v w
theorem KeyTy.of {k : TypeId} (K : WideMaps.KeyLaw Tryz.prog k) : KeyTy k (fun v => ∃ l, keyOf Tryz.prog k v = some l) where
  check w em _ h := by obtain ⟨l, h⟩ := h; exact K.check w em h
  find w _ h es hes := by obtain ⟨l, h⟩ := h; exact K.find w h es hes
  stays w _ h := by obtain ⟨l, h⟩ := h; exact K.stays w h

def kvOf (e : MapEntry) : Value × Value := (e.key, e.val)
/-- These entries are those of L, in whatever order. -/
structure HoldsM (KS : Value → Prop) (es : Array MapEntry) (clock : Nat) (L : List (Value × Value)) : Prop where
  st : MapKept.Stamped es clock
  perm : (es.toList.map kvOf).Perm L
  ks : ∀ e ∈ es.toList, KS e.key
/-- A map in a block. -/
def MapT (KS : Value → Prop) (p : Nat) (L : List (Value × Value)) : Thing := ⟨some p, fun w => ∃ es clock, w.heap[p]? = some (.map es clock) ∧ HoldsM KS es clock L, fun _ _ h ⟨es, c, hb, hh⟩ => ⟨es, c, (h p rfl).trans hb, hh⟩⟩
/-- A map's block, known whole. -/
def MapX (p : Nat) (es : Array MapEntry) (clock : Nat) : Thing := ⟨some p, fun w => w.heap[p]? = some (.map es clock), fun _ _ h hb => (h p rfl).trans hb⟩
/-- An iterator over the map in block p. -/
def IterX (r p since : Nat) (seen : Array Nat) (c0 : Nat) : Thing := ⟨some r, fun w => w.heap[r]? = some (.mapIter (some p) since seen c0), fun _ _ h hb => (h r rfl).trans hb⟩

/-- What m[key] is: b: whether it is there. -/
def Look (L : List (Value × Value)) (key z : Value) (b : Bool) (r : Value) : Prop := (b = true ∧ (key, r) ∈ L) ∨ (b = false ∧ r = z ∧ ∀ x ∈ L, x.1 ≠ key)
/-- L' is L behind m[key] = v. -/
def PutM (L : List (Value × Value)) (key v : Value) (L' : List (Value × Value)) : Prop := ∃ rest, (∀ x ∈ rest, x.1 ≠ key) ∧ (L.Perm rest ∨ ∃ v0, L.Perm ((key, v0) :: rest)) ∧ L'.Perm ((key, v) :: rest)
/-- L' is L behind delete(m, key). -/
def DelM (L : List (Value × Value)) (key : Value) (L' : List (Value × Value)) : Prop := ∃ rest, (∀ x ∈ rest, x.1 ≠ key) ∧ (L.Perm rest ∨ ∃ v0, L.Perm ((key, v0) :: rest)) ∧ L'.Perm rest

theorem Repl.of_mem {l : List Thing} {x : Thing} (x' : Thing) (m : x ∈ l) : ∃ l', Repl l x x' l' := by
  induction l with
  | nil => cases m
  | cons y l ih =>
    rcases List.mem_cons.1 m with rfl | m
    · exact ⟨_, .here⟩
    · obtain ⟨l', hl'⟩ := ih m
      exact ⟨_, .there hl'⟩
theorem Repl.same {l l1 l2 : List Thing} {x x' : Thing} (h1 : Repl l x x' l1) (h2 : Repl l x x' l2) : l1.Perm l2 := by
  obtain ⟨r, a1, b1⟩ := h1.perm
  obtain ⟨s, a2, b2⟩ := h2.perm
  exact b1.trans (((a1.symm.trans a2).cons_inv.cons _).trans b2.symm)
theorem perm_erase {α : Type} : ∀ (l : List α) (j : Nat) (h : j < l.length), l.Perm (l[j] :: l.eraseIdx j)
  | [], j, h => by simp at h
  | x :: l, 0, _ => by simp
  | x :: l, j + 1, h => by
    simp only [List.getElem_cons_succ, List.eraseIdx_cons_succ]
    exact ((perm_erase l j (by simpa using h)).cons x).trans (.swap _ _ _)
section
variable {KS : Value → Prop} {es : Array MapEntry} {clock p : Nat} {L L' : List (Value × Value)} {w : World} {t k e : TypeId}
theorem HoldsM.size (h : HoldsM KS es clock L) : es.size = L.length := by
  have := h.perm.length_eq
  simpa using this
theorem HoldsM.keys (h : HoldsM KS es clock L) : (L.map (·.1)).Nodup := by
  have h3 := ((MapKept.stamped_iff es clock).1 h.st).2.2
  have : ((es.toList.map kvOf).map (·.1)).Nodup := by
    unfold List.Nodup
    rw [List.pairwise_map, List.pairwise_map]
    exact h3
  exact (h.perm.map (·.1)).nodup_iff.1 this
theorem HoldsM.entry (h : HoldsM KS es clock L) {x : Value × Value} (hx : x ∈ L) : ∃ en ∈ es.toList, kvOf en = x := by
  have := h.perm.mem_iff.2 hx
  obtain ⟨en, h1, h2⟩ := List.mem_map.1 this
  exact ⟨en, h1, h2⟩
theorem HoldsM.mem (h : HoldsM KS es clock L) {en : MapEntry} (hx : en ∈ es.toList) : (en.key, en.val) ∈ L := h.perm.mem_iff.1 (List.mem_map.2 ⟨en, hx, rfl⟩)
theorem nodup_fst {L : List (Value × Value)} (h : (L.map (·.1)).Nodup) {k v v' : Value} (h1 : (k, v) ∈ L) (h2 : (k, v') ∈ L) : v = v' := by
  induction L with
  | nil => cases h1
  | cons x r ih =>
    simp only [List.map_cons, List.nodup_cons] at h
    rcases List.mem_cons.1 h1 with h1 | h1 <;> rcases List.mem_cons.1 h2 with h2 | h2
    · rw [← h1] at h2; exact (Prod.mk.inj h2).2.symm
    · exact absurd (List.mem_map.2 ⟨_, h2, by rw [← h1]⟩) h.1
    · exact absurd (List.mem_map.2 ⟨_, h1, by rw [← h2]⟩) h.1
    · exact ih h.2 h1 h2
theorem run_lookM (K : KeyTy k KS) (ht : Tryz.prog.underlying t = some (.map k e)) {z : Value} (hz : (zeroValue e).run Tryz.prog w = .ok z w) (hb : w.heap[p]? = some (.map es clock)) (hh : HoldsM KS es clock L) {key : Value} (hk : KS key) {b : Bool} {r : Value} (hl : Look L key z b r) (c : Bool) :
    (Instr.lookup t (.map (some p)) key c).run Tryz.prog w = .ok (if c then .tuple #[r, .bool b] else r) w := by
  rcases K.find w hk es.toList hh.ks with ⟨h1, h2⟩ | ⟨j, e0, h1, h2, h3⟩
  · rcases hl with ⟨rfl, hm⟩ | ⟨rfl, rfl, _⟩
    · obtain ⟨en, hen, hkv⟩ := hh.entry hm
      exact absurd (by simpa [kvOf] using congrArg Prod.fst hkv) (h2 en hen)
    · simp [Instr.lookup, run_underlying ht, MapKept.run_getObj_map hb, K.check w _ hk, h1, hz, Result.andThen]
  · have hm := hh.mem (List.mem_of_getElem? h2)
    rcases hl with ⟨rfl, hm2⟩ | ⟨rfl, rfl, hn⟩
    · rw [h3] at hm
      obtain rfl := nodup_fst hh.keys hm2 hm
      simp [Instr.lookup, run_underlying ht, MapKept.run_getObj_map hb, K.check w _ hk, h1, Result.andThen]
    · exact absurd h3 (hn _ hm)
theorem run_putM (K : KeyTy k KS) (ht : Tryz.prog.underlying t = some (.map k e)) (hb : w.heap[p]? = some (.map es clock)) (hh : HoldsM KS es clock L) {key v : Value} (hk : KS key) (hp : PutM L key v L') :
    ∃ es' clock', (Instr.mapUpdate t (.map (some p)) key v).run Tryz.prog w = .ok () (ChangeMaps.setBlock w p (.map es' clock')) ∧ HoldsM KS es' clock' L' := by
  obtain ⟨rest, hr, hL, hL'⟩ := hp
  rcases K.find w hk es.toList hh.ks with ⟨h1, h2⟩ | ⟨j, e0, h1, h2, h3⟩
  · refine ⟨es.push ⟨key, v, clock⟩, clock + 1, ?_, MapKept.stamped_push hh.st h2, ?_, ?_⟩
    · simp [Instr.mapUpdate, run_underlying ht, MapKept.run_getObj_map hb, K.check w false hk, h1, MapKept.run_setObj_map _ hb, Result.andThen, ChangeMaps.setBlock]
    · rcases hL with hL | ⟨v0, hL⟩
      · simp only [Array.toList_push, List.map_append, List.map_cons, List.map_nil]
        refine (List.perm_append_singleton _ _).trans ?_
        exact (((hh.perm.trans hL).cons _).trans hL'.symm)
      · exfalso
        obtain ⟨en, hen, hkv⟩ := hh.entry (hL.mem_iff.2 (List.mem_cons_self ..))
        exact h2 en hen (by simpa [kvOf] using congrArg Prod.fst hkv)
    · intro x hx
      simp only [Array.toList_push, List.mem_append, List.mem_singleton] at hx
      rcases hx with hx | rfl
      · exact hh.ks x hx
      · exact hk
  · have hj : es[j]? = some e0 := by simpa using h2
    have hjl : j < es.toList.length := (List.getElem?_eq_some_iff.1 h2).1
    have hje : es.toList[j] = e0 := (List.getElem?_eq_some_iff.1 h2).2
    have hlist : (es.modify j (fun e' => { e' with key := key, val := v })).toList = es.toList.set j { e0 with key := key, val := v } := by rw [Array.toList_modify, ChangeMaps.modify_eq_set _ _ _ _ h2]
    refine ⟨es.modify j (fun e' => { e' with key := key, val := v }), clock, ?_, MapKept.stamped_modify hh.st _ _ (fun _ _ => rfl) (fun e' _ he' => by rw [hj] at he'; cases he'; exact h3.symm), ?_, ?_⟩
    · simp [Instr.mapUpdate, run_underlying ht, MapKept.run_getObj_map hb, K.check w false hk, h1, hj, h3, K.stays w hk, MapKept.run_setObj_map _ hb, Result.andThen, ChangeMaps.setBlock]
    · rw [hlist, List.map_set]
      have hp0 : (es.toList.map kvOf).Perm (kvOf e0 :: (es.toList.map kvOf).eraseIdx j) := by
        have := perm_erase (es.toList.map kvOf) j (by simpa using hjl)
        rw [List.getElem_map, hje] at this
        exact this
      have hp1 : ((es.toList.map kvOf).set j (kvOf { e0 with key := key, val := v })).Perm ((key, v) :: (es.toList.map kvOf).eraseIdx j) := ChangeMaps.set_perm _ _ (by simpa using hjl) _
      refine hp1.trans (List.Perm.trans ?_ hL'.symm)
      refine List.Perm.cons _ ?_
      have hk0 : kvOf e0 = (key, e0.val) := by unfold kvOf; rw [h3]
      rw [hk0] at hp0
      rcases hL with hL | ⟨v0, hL⟩
      · exfalso
        have := (hh.perm.trans hL).mem_iff.1 (hp0.mem_iff.2 (List.mem_cons_self ..))
        exact hr _ this rfl
      · have h5 := (hp0.symm.trans (hh.perm.trans hL))
        have hv : e0.val = v0 := nodup_fst hh.keys (hh.perm.mem_iff.1 (hp0.mem_iff.2 (List.mem_cons_self ..))) (hL.mem_iff.2 (List.mem_cons_self ..))
        rw [hv] at h5
        exact h5.cons_inv
    · intro x hx
      rw [hlist] at hx
      rcases List.mem_or_eq_of_mem_set hx with hx | rfl
      · exact hh.ks x hx
      · exact hk
theorem run_delM {ty : TypeId} (K : KeyTy k KS) (ht : Tryz.prog.underlying t = some (.map k e)) (hb : w.heap[p]? = some (.map es clock)) (hh : HoldsM KS es clock L) {key : Value} (hk : KS key) (hp : DelM L key L') :
    ∃ es' clock', (Builtin.delete_ #[t, k] ty #[.map (some p), key]).run Tryz.prog w = .ok (.tuple #[]) (ChangeMaps.setBlock w p (.map es' clock')) ∧ HoldsM KS es' clock' L' := by
  obtain ⟨rest, hr, hL, hL'⟩ := hp
  rcases K.find w hk es.toList hh.ks with ⟨h1, h2⟩ | ⟨j, e0, h1, h2, h3⟩
  · refine ⟨es, clock, ?_, hh.st, ?_, hh.ks⟩
    · simp [Builtin.delete_, run_underlying ht, MapKept.run_getObj_map hb, K.check w _ hk, h1, MapKept.run_setObj_map _ hb, Result.andThen, ChangeMaps.setBlock]
    · rcases hL with hL | ⟨v0, hL⟩
      · exact (hh.perm.trans hL).trans hL'.symm
      · exfalso
        obtain ⟨en, hen, hkv⟩ := hh.entry (hL.mem_iff.2 (List.mem_cons_self ..))
        exact h2 en hen (by simpa [kvOf] using congrArg Prod.fst hkv)
  · have hjl : j < es.toList.length := (List.getElem?_eq_some_iff.1 h2).1
    have hjs : j < es.size := by simpa using hjl
    have hje : es.toList[j] = e0 := (List.getElem?_eq_some_iff.1 h2).2
    have hsub : (es.eraseIdxIfInBounds j).toList = es.toList.eraseIdx j := by
      unfold Array.eraseIdxIfInBounds
      rw [dif_pos hjs]
      simp
    refine ⟨es.eraseIdxIfInBounds j, clock, ?_, MapKept.stamped_erase hh.st j, ?_, ?_⟩
    · simp [Builtin.delete_, run_underlying ht, MapKept.run_getObj_map hb, K.check w _ hk, h1, MapKept.run_setObj_map _ hb, Result.andThen, ChangeMaps.setBlock]
    · rw [hsub, ChangeMaps.map_eraseIdx]
      have hp0 : (es.toList.map kvOf).Perm (kvOf e0 :: (es.toList.map kvOf).eraseIdx j) := by
        have := perm_erase (es.toList.map kvOf) j (by simpa using hjl)
        rw [List.getElem_map, hje] at this
        exact this
      have hk0 : kvOf e0 = (key, e0.val) := by unfold kvOf; rw [h3]
      rw [hk0] at hp0
      refine List.Perm.trans ?_ hL'.symm
      rcases hL with hL | ⟨v0, hL⟩
      · exfalso
        exact hr _ ((hh.perm.trans hL).mem_iff.1 (hp0.mem_iff.2 (List.mem_cons_self ..))) rfl
      · have hv : e0.val = v0 := nodup_fst hh.keys (hh.perm.mem_iff.1 (hp0.mem_iff.2 (List.mem_cons_self ..))) (hL.mem_iff.2 (List.mem_cons_self ..))
        have h5 := hp0.symm.trans (hh.perm.trans hL)
        rw [hv] at h5
        exact h5.cons_inv
    · intro x hx
      rw [hsub] at hx
      exact hh.ks x ((List.eraseIdx_sublist _ _).subset hx)
theorem grown_setBlock {p : Nat} {o : Obj} : w.grownBy (ChangeMaps.setBlock w p o) (some p) :=
  ⟨rfl, rfl, rfl, by simp [ChangeMaps.setBlock], fun k _ hk => by
    have hne : p ≠ k := fun e => hk (by rw [e])
    simp [ChangeMaps.setBlock, Array.getElem?_setIfInBounds_ne hne]⟩
theorem setBlock_at {p : Nat} {o o' : Obj} (h : w.heap[p]? = some o) : (ChangeMaps.setBlock w p o').heap[p]? = some o' := by
  have hlt : p < w.heap.size := (Array.getElem?_eq_some_iff.1 h).1
  simp [ChangeMaps.setBlock, hlt]
end

section
variable {ops : Array Oper} {rest : List Oper} {a : Act} {w W : World} {l l' : List Thing} {Q : Exit → Act → World → Prop} {KS : Value → Prop} {k e : TypeId} {L L' : List (Value × Value)}
/-- What a map's type and its elements' zero say. -/
structure MapTy (t k e : TypeId) (KS : Value → Prop) (z : Value) : Prop where
  und : Tryz.prog.underlying t = some (.map k e)
  key : KeyTy k KS
  zero : ∀ w, (zeroValue e).run Tryz.prog w = .ok z w
theorem wpl_look {dst : Option Tmp} {ty : TypeId} {pos : String} {after : Array Edge} {guard : Option (Nat × Bool)} {t : TypeId} {x y : Operand} {p : Nat} {key z r : Value} {b c : Bool} (MT : MapTy t k e KS z) (hw : Region.wanted ⟨dst, .lookup t x y c, ty, pos, after, guard⟩ (yielded ops a.tmps) = true) (hx : a.eval x = .map (some p)) (hy : a.eval y = key) (hk : KS key)
    (H : Heap W l w) (m : MapT KS p L ∈ l) (hl : Look L key z b r) (h : wpList Tryz.prog ops Q rest (a.put dst (if c then .tuple #[r, .bool b] else r)) w) : wpList Tryz.prog ops Q (⟨dst, .lookup t x y c, ty, pos, after, guard⟩ :: rest) a w := by
  obtain ⟨es, clock, hb, hh⟩ := H.ok _ m
  refine BigFrame.wpList_want hw fun K hK => ?_
  unfold Oper.wp execOp
  simp only [hx, hy, Sem.run_bind, run_lookM MT.key MT.und (MT.zero w) hb hh hk hl c, Result.andThen_ok, Sem.run_pure]
  exact hK _ _ h
theorem wpQ_look {K : Act → Prop} {H : Heap W l w} {dst : Option Tmp} {ty : TypeId} {pos : String} {after : Array Edge} {guard : Option (Nat × Bool)} {t : TypeId} {x y : Operand} {p : Nat} {key z r : Value} {b c : Bool} (MT : MapTy t k e KS z) (hw : Region.wanted ⟨dst, .lookup t x y c, ty, pos, after, guard⟩ (yielded ops a.tmps) = true) (hx : a.eval x = .map (some p)) (hy : a.eval y = key) (hk : KS key)
    (m : MapT KS p L ∈ l) (hl : Look L key z b r) (h : wpQuiet Tryz.prog ops (fun w' => ∃ d, w' = H.any d) K rest (a.put dst (if c then .tuple #[r, .bool b] else r))) : wpQuiet Tryz.prog ops (fun w' => ∃ d, w' = H.any d) K (⟨dst, .lookup t x y c, ty, pos, after, guard⟩ :: rest) a := by
  refine BigFrame.wpQuiet_want hw fun K hK => ⟨_, ?_, hK _ h⟩
  rintro _ ⟨d, rfl⟩
  obtain ⟨es, clock, hb, hh⟩ := (H.any_heap d).ok _ m
  unfold Oper.quietAt execOp
  simp only [hx, hy, Sem.run_bind, run_lookM MT.key MT.und (MT.zero _) hb hh hk hl c]
  exact ⟨rfl, rfl⟩
theorem wpl_look0 {dst : Option Tmp} {ty : TypeId} {pos : String} {after : Array Edge} {guard : Option (Nat × Bool)} {t : TypeId} {x y : Operand} {p : Nat} {key z r : Value} {b : Bool} (MT : MapTy t k e KS z) (hw : Region.wanted ⟨dst, .lookup t x y false, ty, pos, after, guard⟩ (yielded ops a.tmps) = true) (hx : a.eval x = .map (some p)) (hy : a.eval y = key) (hk : KS key)
    (H : Heap W l w) (m : MapT KS p L ∈ l) (hl : Look L key z b r) (h : wpList Tryz.prog ops Q rest (a.put dst (r)) w) : wpList Tryz.prog ops Q (⟨dst, .lookup t x y false, ty, pos, after, guard⟩ :: rest) a w :=
  wpl_look MT hw hx hy hk H m hl (by rw [if_neg Bool.false_ne_true]; exact h)
theorem wpl_look1 {dst : Option Tmp} {ty : TypeId} {pos : String} {after : Array Edge} {guard : Option (Nat × Bool)} {t : TypeId} {x y : Operand} {p : Nat} {key z r : Value} {b : Bool} (MT : MapTy t k e KS z) (hw : Region.wanted ⟨dst, .lookup t x y true, ty, pos, after, guard⟩ (yielded ops a.tmps) = true) (hx : a.eval x = .map (some p)) (hy : a.eval y = key) (hk : KS key)
    (H : Heap W l w) (m : MapT KS p L ∈ l) (hl : Look L key z b r) (h : wpList Tryz.prog ops Q rest (a.put dst (.tuple #[r, .bool b])) w) : wpList Tryz.prog ops Q (⟨dst, .lookup t x y true, ty, pos, after, guard⟩ :: rest) a w :=
  wpl_look MT hw hx hy hk H m hl (by rw [if_pos rfl]; exact h)
theorem wpQ_look0 {K : Act → Prop} {H : Heap W l w} {dst : Option Tmp} {ty : TypeId} {pos : String} {after : Array Edge} {guard : Option (Nat × Bool)} {t : TypeId} {x y : Operand} {p : Nat} {key z r : Value} {b : Bool} (MT : MapTy t k e KS z) (hw : Region.wanted ⟨dst, .lookup t x y false, ty, pos, after, guard⟩ (yielded ops a.tmps) = true) (hx : a.eval x = .map (some p)) (hy : a.eval y = key) (hk : KS key)
    (m : MapT KS p L ∈ l) (hl : Look L key z b r) (h : wpQuiet Tryz.prog ops (fun w' => ∃ d, w' = H.any d) K rest (a.put dst (r))) : wpQuiet Tryz.prog ops (fun w' => ∃ d, w' = H.any d) K (⟨dst, .lookup t x y false, ty, pos, after, guard⟩ :: rest) a :=
  wpQ_look MT hw hx hy hk m hl (by rw [if_neg Bool.false_ne_true]; exact h)
theorem wpQ_look1 {K : Act → Prop} {H : Heap W l w} {dst : Option Tmp} {ty : TypeId} {pos : String} {after : Array Edge} {guard : Option (Nat × Bool)} {t : TypeId} {x y : Operand} {p : Nat} {key z r : Value} {b : Bool} (MT : MapTy t k e KS z) (hw : Region.wanted ⟨dst, .lookup t x y true, ty, pos, after, guard⟩ (yielded ops a.tmps) = true) (hx : a.eval x = .map (some p)) (hy : a.eval y = key) (hk : KS key)
    (m : MapT KS p L ∈ l) (hl : Look L key z b r) (h : wpQuiet Tryz.prog ops (fun w' => ∃ d, w' = H.any d) K rest (a.put dst (.tuple #[r, .bool b]))) : wpQuiet Tryz.prog ops (fun w' => ∃ d, w' = H.any d) K (⟨dst, .lookup t x y true, ty, pos, after, guard⟩ :: rest) a :=
  wpQ_look MT hw hx hy hk m hl (by rw [if_pos rfl]; exact h)
theorem wpl_putM {dst : Option Tmp} {ty : TypeId} {pos : String} {after : Array Edge} {guard : Option (Nat × Bool)} {t : TypeId} {x y u : Operand} {p : Nat} {key z v : Value} (MT : MapTy t k e KS z) (hw : Region.wanted ⟨dst, .mapUpdate t x y u, ty, pos, after, guard⟩ (yielded ops a.tmps) = true) (hx : a.eval x = .map (some p)) (hy : a.eval y = key) (hu : a.eval u = v) (hk : KS key)
    (H : Heap W l w) (hp : PutM L key v L') (r : Repl l (MapT KS p L) (MapT KS p L') l') (h : ∀ w', Heap W l' w' → wpList Tryz.prog ops Q rest (a.put dst undef) w') : wpList Tryz.prog ops Q (⟨dst, .mapUpdate t x y u, ty, pos, after, guard⟩ :: rest) a w := by
  obtain ⟨es, clock, hb, hh⟩ := H.ok _ r.mem
  obtain ⟨es', clock', hrun, hh'⟩ := run_putM MT.key MT.und hb hh hk hp
  refine BigFrame.wpList_want hw fun K hK => ?_
  unfold Oper.wp execOp
  simp only [hx, hy, hu, Sem.run_bind, hrun, Result.andThen_ok, Sem.run_pure]
  exact hK _ _ (h _ (H.upd r grown_setBlock ⟨es', clock', setBlock_at hb, hh'⟩ (.inl rfl)))
theorem wpl_delM {dst : Option Tmp} {ty : TypeId} {pos : String} {after : Array Edge} {guard : Option (Nat × Bool)} {t : TypeId} {x y : Operand} {p : Nat} {key z : Value} (MT : MapTy t k e KS z) (hw : Region.wanted ⟨dst, .call { callee := .builtin .delete, args := #[x, y], argTypes := #[t, k] }, ty, pos, after, guard⟩ (yielded ops a.tmps) = true) (hx : a.eval x = .map (some p)) (hy : a.eval y = key) (hk : KS key)
    (H : Heap W l w) (hp : DelM L key L') (r : Repl l (MapT KS p L) (MapT KS p L') l') (h : ∀ w', Heap W l' w' → wpList Tryz.prog ops Q rest (a.put dst (.tuple #[])) w') : wpList Tryz.prog ops Q (⟨dst, .call { callee := .builtin .delete, args := #[x, y], argTypes := #[t, k] }, ty, pos, after, guard⟩ :: rest) a w := by
  obtain ⟨es, clock, hb, hh⟩ := H.ok _ r.mem
  obtain ⟨es', clock', hrun, hh'⟩ := run_delM (ty := ty) MT.key MT.und hb hh hk hp
  refine BigFrame.wpList_want hw fun K hK => ?_
  unfold Oper.wp execOp
  simp only [resolve, invoke, builtin, List.map_toArray, List.map_cons, List.map_nil, hx, hy, Sem.run_bind, Sem.run_pure, hrun, Result.andThen_ok]
  exact hK _ _ (h _ (H.upd r grown_setBlock ⟨es', clock', setBlock_at hb, hh'⟩ (.inl rfl)))
theorem wpl_makeM {dst : Option Tmp} {ty : TypeId} {pos : String} {after : Array Edge} {guard : Option (Nat × Bool)} {t : TypeId} (hw : Region.wanted ⟨dst, .makeMap t none, ty, pos, after, guard⟩ (yielded ops a.tmps) = true)
    (H : Heap W l w) (h : ∀ p w', Heap W (MapT KS p [] :: l) w' → wpList Tryz.prog ops Q rest (a.put dst (.map (some p))) w') : wpList Tryz.prog ops Q (⟨dst, .makeMap t none, ty, pos, after, guard⟩ :: rest) a w := by
  refine BigFrame.wpList_want hw fun K hK => ?_
  unfold Oper.wp execOp
  simp only [Option.map_none, Instr.makeMap, newObj, Sem.run_bind]
  refine hK _ _ (h w.heap.size (w.alloc (.map #[] 0)) ?_)
  exact H.add ⟨rfl, rfl, rfl, by simp, fun k hk _ => Below.heap_alloc _ _ _ hk⟩ ⟨#[], 0, heap_alloc_new w _, MapKept.stamped_empty 0, by simp, by simp⟩ (fun k hk => by cases hk; exact ⟨Nat.le_refl _, by simp⟩)
theorem run_lenM {ty t p : Nat} (hu : Tryz.prog.underlying t = some (.map k e)) (H : Heap W l w) (m : MapT KS p L ∈ l) : (Builtin.len_ #[t] ty #[.map (some p)]).run Tryz.prog w = .ok (goInt L.length) w := by
  obtain ⟨es, clock, hb, hh⟩ := H.ok _ m
  simp [Builtin.len_, run_underlying hu, MapKept.run_getObj_map hb, hh.size, Result.andThen]
theorem wpl_lenM {dst : Option Tmp} {ty : TypeId} {pos : String} {after : Array Edge} {guard : Option (Nat × Bool)} {t : TypeId} {x : Operand} {p : Nat} (hu : Tryz.prog.underlying t = some (.map k e)) (hw : Region.wanted ⟨dst, .call { callee := .builtin .len, args := #[x], argTypes := #[t] }, ty, pos, after, guard⟩ (yielded ops a.tmps) = true) (hx : a.eval x = .map (some p))
    (H : Heap W l w) (m : MapT KS p L ∈ l) (h : wpList Tryz.prog ops Q rest (a.put dst (.int .i64 (L.length : Int))) w) : wpList Tryz.prog ops Q (⟨dst, .call { callee := .builtin .len, args := #[x], argTypes := #[t] }, ty, pos, after, guard⟩ :: rest) a w := by
  refine BigFrame.wpList_want hw fun K hK => ?_
  unfold Oper.wp execOp
  simp only [resolve, invoke, builtin, List.map_toArray, List.map_cons, List.map_nil, hx, Sem.run_bind, Sem.run_pure, run_lenM hu H m, Result.andThen_ok]
  exact hK _ _ h
/-- A map laid open, and shut again. -/
theorem Heap.openM {p : Nat} (H : Heap W (MapT KS p L :: l) w) : ∃ es clock, HoldsM KS es clock L ∧ Heap W (MapX p es clock :: l) w := by
  obtain ⟨es, clock, hb, hh⟩ := H.ok _ (List.mem_cons_self ..)
  exact ⟨es, clock, hh, H.head (World.grownBy.refl _ _) hb (.inl rfl)⟩
theorem Heap.shutM {p : Nat} {es : Array MapEntry} {clock : Nat} (H : Heap W (MapX p es clock :: l) w) (hh : HoldsM KS es clock L) : Heap W (MapT KS p L :: l) w :=
  H.head (World.grownBy.refl _ _) ⟨es, clock, H.ok _ (List.mem_cons_self ..), hh⟩ (.inl rfl)
theorem wpl_rangeM {dst : Option Tmp} {ty : TypeId} {pos : String} {after : Array Edge} {guard : Option (Nat × Bool)} {t : TypeId} {x : Operand} {p : Nat} {es : Array MapEntry} {clock : Nat} (hu : Tryz.prog.underlying t = some (.map k e)) (hw : Region.wanted ⟨dst, .range t x, ty, pos, after, guard⟩ (yielded ops a.tmps) = true) (hx : a.eval x = .map (some p))
    (H : Heap W l w) (m : MapX p es clock ∈ l) (h : ∀ r w', Heap W (IterX r p clock #[] clock :: l) w' → wpList Tryz.prog ops Q rest (a.put dst (.pointer (some ⟨r, 0, none⟩))) w') : wpList Tryz.prog ops Q (⟨dst, .range t x, ty, pos, after, guard⟩ :: rest) a w := by
  refine BigFrame.wpList_want hw fun K hK => ?_
  unfold Oper.wp execOp
  simp only [hx, Sem.run_bind, run_range_map w t k e p es clock hu (H.ok _ m), Result.andThen_ok, Sem.run_pure]
  refine hK _ _ (h w.heap.size (w.alloc (.mapIter (some p) clock #[] clock)) ?_)
  exact H.add ⟨rfl, rfl, rfl, by simp, fun k hk _ => Below.heap_alloc _ _ _ hk⟩ (heap_alloc_new w _) (fun k hk => by cases hk; exact ⟨Nat.le_refl _, by simp⟩)
/-- The step of a range over a map: all are done; or one more comes. -/
theorem wpl_nextM {dst : Option Tmp} {ty : TypeId} {pos : String} {after : Array Edge} {guard : Option (Nat × Bool)} {x : Operand} {r p c0 : Nat} {es : Array MapEntry} {clock : Nat} {done : List MapEntry} (hw : Region.wanted ⟨dst, .next x false, ty, pos, after, guard⟩ (yielded ops a.tmps) = true) (hx : a.eval x = .pointer (some ⟨r, 0, none⟩))
    (hst : MapKept.Stamped es clock) (hc : clock ≤ c0) (hd : ∀ y ∈ done, y ∈ es.toList) (hnd : done.Nodup) (H : Heap W l w) (m : MapX p es clock ∈ l) (m2 : IterX r p clock (done.map (fun e : MapEntry => e.born)).toArray c0 ∈ l)
    (h0 : done.Perm es.toList → wpList Tryz.prog ops Q rest (a.put dst (.tuple #[.bool false])) w)
    (h1 : ∀ en ∈ es.toList, en ∉ done → ∀ l', Repl l (IterX r p clock (done.map (fun e : MapEntry => e.born)).toArray c0) (IterX r p clock ((done ++ [en]).map (fun e : MapEntry => e.born)).toArray clock) l' → ∀ w', Heap W l' w' → (∀ w2 l2, Heap W l2 w2 → MapX p es clock ∈ l2 → IterX r p clock ((done ++ [en]).map (fun e : MapEntry => e.born)).toArray clock ∈ l2 → (Instr.entry (.pointer (some ⟨r, 0, none⟩))).run Tryz.prog w2 = .ok (.tuple #[en.key, en.val]) w2) → wpList Tryz.prog ops Q rest (a.put dst (.tuple #[.bool true, en.key, en.val])) w') :
    wpList Tryz.prog ops Q (⟨dst, .next x false, ty, pos, after, guard⟩ :: rest) a w := by
  obtain ⟨s1, s2, s3⟩ := (MapKept.stamped_iff es clock).1 hst
  have hne : es.toList.Nodup := (List.Pairwise.of_map (fun (e : MapEntry) => e.born) (fun x y h e => h (by rw [e])) s2)
  have hinj : ∀ x ∈ es.toList, ∀ y ∈ es.toList, x.born = y.born → x = y := fun x hx y hy e => by
    exact born_inj s2 hx hy e
  refine BigFrame.wpList_want hw fun K hK => ?_
  unfold Oper.wp execOp
  have hr0 : w.heap[r]? = some (.mapIter (some p) clock (done.map (fun e : MapEntry => e.born)).toArray c0) := H.ok _ m2
  have hm0 : w.heap[p]? = some (.map es clock) := H.ok _ m
  rcases run_next_at (P := Tryz.prog) w ty r p clock c0 (done.map (fun e : MapEntry => e.born)).toArray es clock hr0 hm0 s1 hc with ⟨hz, hrun⟩ | ⟨en, hen, w1, hw1, hrun⟩
  · simp only [hx, Sem.run_bind, hrun, Result.andThen_ok, Sem.run_pure]
    refine hK _ _ (h0 ?_)
    refine (List.perm_ext_iff_of_nodup hnd hne).2 fun y => ⟨hd y, fun hy => ?_⟩
    have : leftOf es (done.map (fun e : MapEntry => e.born)).toArray = #[] := Array.eq_empty_of_size_eq_zero hz
    unfold leftOf at this
    rw [Array.filter_eq_empty_iff] at this
    have := this y (by simpa using hy)
    simp only [List.contains_toArray, Bool.not_eq_eq_eq_not, Bool.not_true, Bool.not_eq_false, List.contains_iff_mem, List.mem_map] at this
    obtain ⟨z, hz1, hz2⟩ := this
    rw [← hinj z (hd z hz1) y hy hz2]
    exact hz1
  · simp only [hx, Sem.run_bind, hrun, Result.andThen_ok, Sem.run_pure]
    have hen' : en ∈ es.toList ∧ en ∉ done := by
      unfold leftOf at hen
      simp only [Array.toList_filter, List.mem_filter] at hen
      refine ⟨hen.1, fun hin => ?_⟩
      have := hen.2
      simp only [List.contains_toArray, Bool.not_eq_eq_eq_not, Bool.not_true, List.contains_eq_mem, decide_eq_false_iff_not, List.mem_map, not_exists, not_and] at this
      exact this en hin rfl
    have hpush : (done.map (fun e : MapEntry => e.born)).toArray.push en.born = ((done ++ [en]).map (fun e : MapEntry => e.born)).toArray := by simp
    rw [hpush] at hrun ⊢
    obtain ⟨l', hl'⟩ := Repl.of_mem (IterX r p clock ((done ++ [en]).map (fun e : MapEntry => e.born)).toArray clock) m2
    refine hK _ _ (h1 en hen'.1 hen'.2 l' hl' _ ?_ ?_)
    · have H1 : Heap W l w1 := by
        rcases hw1 with rfl | rfl
        · exact H
        · exact H.drew
      exact H1.upd hl' grown_setBlock (setBlock_at (H1.ok _ m2)) (.inl rfl)
    · intro w2 l2 H2 n1 n2
      refine run_entry_at w2 r p clock (done.map (fun e : MapEntry => e.born)).toArray es clock en ?_ (H2.ok _ n1) hen'.1 s2
      have := H2.ok _ n2
      rw [← hpush] at this
      exact this
/-- The same with one goal behind it. -/
theorem wpl_nextP {dst : Option Tmp} {ty : TypeId} {pos : String} {after : Array Edge} {guard : Option (Nat × Bool)} {x : Operand} {r p c0 : Nat} {es : Array MapEntry} {clock : Nat} {done : List MapEntry} {lf : MapEntry → List Thing} (hw : Region.wanted ⟨dst, .next x false, ty, pos, after, guard⟩ (yielded ops a.tmps) = true) (hx : a.eval x = .pointer (some ⟨r, 0, none⟩))
    (hst : MapKept.Stamped es clock) (hc : clock ≤ c0) (hd : ∀ y ∈ done, y ∈ es.toList) (hnd : done.Nodup) (H : Heap W l w) (m : MapX p es clock ∈ l) (m2 : IterX r p clock (done.map (fun e : MapEntry => e.born)).toArray c0 ∈ l)
    (hr : ∀ en : MapEntry, Repl l (IterX r p clock (done.map (fun e : MapEntry => e.born)).toArray c0) (IterX r p clock ((done ++ [en]).map (fun e : MapEntry => e.born)).toArray clock) (lf en))
    (h : (done.Perm es.toList → wpList Tryz.prog ops Q rest (a.put dst (.tuple #[.bool false])) w) ∧
      (∀ en ∈ es.toList, en ∉ done → ∀ w', Heap W (lf en) w' → (∀ w2 l2, Heap W l2 w2 → MapX p es clock ∈ l2 → IterX r p clock ((done ++ [en]).map (fun e : MapEntry => e.born)).toArray clock ∈ l2 → (Instr.entry (.pointer (some ⟨r, 0, none⟩))).run Tryz.prog w2 = .ok (.tuple #[en.key, en.val]) w2) → wpList Tryz.prog ops Q rest (a.put dst (.tuple #[.bool true, en.key, en.val])) w')) :
    wpList Tryz.prog ops Q (⟨dst, .next x false, ty, pos, after, guard⟩ :: rest) a w := by
  refine wpl_nextM hw hx hst hc hd hnd H m m2 h.1 fun en h1 h2 l' hl' w' H' he => ?_
  refine h.2 en h1 h2 w' (H'.perm ?_) he
  exact hl'.same (hr en)
theorem wpl_entryM {dst : Option Tmp} {ty : TypeId} {pos : String} {after : Array Edge} {guard : Option (Nat × Bool)} {x : Operand} {v u : Value} (hw : Region.wanted ⟨dst, .entry x, ty, pos, after, guard⟩ (yielded ops a.tmps) = true) (hx : a.eval x = v)
    (hr : (Instr.entry v).run Tryz.prog w = .ok u w) (h : wpList Tryz.prog ops Q rest (a.put dst u) w) : wpList Tryz.prog ops Q (⟨dst, .entry x, ty, pos, after, guard⟩ :: rest) a w := by
  refine BigFrame.wpList_want hw fun K hK => ?_
  unfold Oper.wp execOp
  simp only [hx, Sem.run_bind, hr, Result.andThen_ok, Sem.run_pure]
  exact hK _ _ h
end
end Go.Proofs.YtgobnamhdkbbeaaGreat

/- Ledgers as lists of lines: what each act answers, and makes of a ledger. -/
namespace Go.Proofs.YtgobnamhdkbbeaaGreat

structure Lin where
  (cr db cu lim deb : Int)
deriving DecidableEq
def Lin.rank (x : Lin) : Int := x.cu * 65536 + x.cr * 256 + x.db
/-- Is x the line of these ends? -/
def Lin.at (x : Lin) (cr db cu : Int) : Bool := x.cr == cr && x.db == db && x.cu == cu
theorem Lin.at_iff {x : Lin} {cr db cu : Int} : x.at cr db cu = true ↔ x.cr = cr ∧ x.db = db ∧ x.cu = cu := by simp [Lin.at, and_assoc]
theorem Lin.at_not {x : Lin} {cr db cu : Int} : x.at cr db cu = false ↔ ¬ (x.cr = cr ∧ x.db = db ∧ x.cu = cu) := by rw [← Lin.at_iff]; simp
structure Lgr where
  (P : List Int) (L : List Lin)
def lineOf (L : List Lin) (cr db cu : Int) : Option Lin := L.find? fun x => x.at cr db cu
def limOf (L : List Lin) (cr db cu : Int) : Int := ((lineOf L cr db cu).map (·.lim)).getD 0
def debOf (L : List Lin) (cr db cu : Int) : Int := ((lineOf L cr db cu).map (·.deb)).getD 0
def isLine (L : List Lin) (cr db cu : Int) : Bool := (lineOf L cr db cu).isSome
def addL (L : List Lin) (cr db cu n : Int) : List Lin := L.map fun x => if x.at cr db cu then { x with deb := x.deb + n } else x
def setL (L : List Lin) (x : Lin) : List Lin :=
  L.filter (fun y => decide (y.rank < x.rank)) ++ (if x.lim = 0 then [] else [x]) ++ L.filter (fun y => decide (x.rank < y.rank))
def insP (P : List Int) (p : Int) : List Int := P.filter (fun q => decide (q < p)) ++ p :: P.filter (fun q => decide (p < q))

structure LinOk (P : List Int) (x : Lin) : Prop where
  cr : x.cr ∈ P
  db : x.db ∈ P
  ne : x.cr ≠ x.db
  cu : 1 ≤ x.cu ∧ x.cu ≤ 8
  lim : 1 ≤ x.lim ∧ x.lim ≤ 1099511627776
  deb : 0 ≤ x.deb ∧ x.deb ≤ x.lim
structure Lgr.Good (S : Lgr) : Prop where
  par : S.P.Pairwise (· < ·)
  par1 : ∀ p ∈ S.P, 1 ≤ p ∧ p ≤ 16
  ord : S.L.Pairwise (fun x y => x.rank < y.rank)
  ok : ∀ x ∈ S.L, LinOk S.P x
  few : S.L.length ≤ 64
def Lgr.new : Lgr := ⟨[], []⟩
theorem Lgr.new_good : Lgr.new.Good := ⟨.nil, (fun _ h => by cases h), .nil, (fun _ h => by cases h), by simp [Lgr.new]⟩

/-! What the acts answer, and make. -/
def openE (S : Lgr) (p : Int) : Int := if p < 1 ∨ 16 < p then 1 else if p ∈ S.P then 8 else 0
def openS (S : Lgr) (p : Int) : Lgr := if openE S p = 0 then ⟨insP S.P p, S.L⟩ else S
def badEnds (cr db cu : Int) : Prop := cr < 1 ∨ 16 < cr ∨ db < 1 ∨ 16 < db ∨ cr = db ∨ cu < 1 ∨ 8 < cu
instance (cr db cu : Int) : Decidable (badEnds cr db cu) := by unfold badEnds; infer_instance
def trustE (S : Lgr) (cr db cu lim : Int) : Int :=
  if badEnds cr db cu ∨ lim < 0 ∨ 1099511627776 < lim then 1 else if cr ∉ S.P ∨ db ∉ S.P then 7 else if lim < debOf S.L cr db cu then 14
  else if isLine S.L cr db cu = false ∧ 0 < lim ∧ 64 ≤ S.L.length then 9 else 0
def trustS (S : Lgr) (cr db cu lim : Int) : Lgr := if trustE S cr db cu lim = 0 then ⟨S.P, setL S.L ⟨cr, db, cu, lim, debOf S.L cr db cu⟩⟩ else S
def roomOf (S : Lgr) (f t c : Int) : Int := debOf S.L f t c + limOf S.L t f c - debOf S.L t f c
def pushE (S : Lgr) (f t c n : Int) : Int := if n < 1 then 1 else if roomOf S f t c < n then 11 else 0
def fallOf (S : Lgr) (f t c n : Int) : Int := min n (debOf S.L f t c)
def pushS (S : Lgr) (f t c n : Int) : Lgr := if pushE S f t c n = 0 then ⟨S.P, addL (addL S.L f t c (-fallOf S f t c n)) t f c (n - fallOf S f t c n)⟩ else S
def forgE (S : Lgr) (cr db cu n : Int) : Int := if n < 1 then 1 else if isLine S.L cr db cu = false then 7 else if debOf S.L cr db cu < n then 14 else 0
def forgS (S : Lgr) (cr db cu n : Int) : Lgr := if forgE S cr db cu n = 0 then ⟨S.P, addL S.L cr db cu (-n)⟩ else S
def posL (L : List Lin) (p c : Int) : Int := (L.map fun x => (if x.cu = c ∧ x.cr = p then x.deb else 0) - (if x.cu = c ∧ x.db = p then x.deb else 0)).sum
def totL (L : List Lin) (c : Int) : Int := (L.map fun x => if x.cu = c then x.deb else 0).sum

/-! Ranks and ends. -/
section
variable {S : Lgr} {x y : Lin} {cr db cu : Int}
theorem rank_inj {a b c a' b' c' : Int} (h1 : 0 ≤ a ∧ a < 256) (h2 : 0 ≤ b ∧ b < 256) (h1' : 0 ≤ a' ∧ a' < 256) (h2' : 0 ≤ b' ∧ b' < 256) (h : c * 65536 + a * 256 + b = c' * 65536 + a' * 256 + b') : a = a' ∧ b = b' ∧ c = c' := by omega
theorem Lgr.Good.small (G : S.Good) (hx : x ∈ S.L) : (1 ≤ x.cr ∧ x.cr ≤ 16) ∧ (1 ≤ x.db ∧ x.db ≤ 16) := ⟨G.par1 _ (G.ok x hx).cr, G.par1 _ (G.ok x hx).db⟩
theorem Lgr.Good.rank_at (G : S.Good) (hx : x ∈ S.L) (h1 : 0 ≤ y.cr ∧ y.cr < 256) (h2 : 0 ≤ y.db ∧ y.db < 256) : x.rank = y.rank ↔ x.at y.cr y.db y.cu = true := by
  rw [Lin.at_iff]
  have := G.small hx
  constructor
  · intro h
    exact rank_inj (by omega) (by omega) h1 h2 h
  · rintro ⟨h1, h2, h3⟩
    unfold Lin.rank
    rw [h1, h2, h3]
theorem pw_inj : ∀ {L : List Lin}, L.Pairwise (fun x y => x.rank < y.rank) → ∀ {x y : Lin}, x ∈ L → y ∈ L → x.rank = y.rank → x = y
  | [], _, _, _, h, _, _ => by cases h
  | a :: L, h, x, y, hx, hy, e => by
    have h1 := List.pairwise_cons.1 h
    rcases List.mem_cons.1 hx with hx | hx <;> rcases List.mem_cons.1 hy with hy | hy
    · rw [hx, hy]
    · have := h1.1 _ hy; rw [hx] at e; omega
    · have := h1.1 _ hx; rw [hy] at e; omega
    · exact pw_inj h1.2 hx hy e
theorem Lgr.Good.uniq (G : S.Good) (hx : x ∈ S.L) (hy : y ∈ S.L) (h : x.rank = y.rank) : x = y := pw_inj G.ord hx hy h
/-- Two lists in order that have the same lines are the same. -/
theorem sorted_ext : ∀ {L M : List Lin}, L.Pairwise (fun x y => x.rank < y.rank) → M.Pairwise (fun x y => x.rank < y.rank) → (∀ z, z ∈ L ↔ z ∈ M) → L = M
  | [], [], _, _, _ => rfl
  | [], b :: M, _, _, h => by have := (h b).2 (List.mem_cons_self ..); cases this
  | a :: L, [], _, _, h => by have := (h a).1 (List.mem_cons_self ..); cases this
  | a :: L, b :: M, hL, hM, h => by
    have h1 := List.pairwise_cons.1 hL
    have h2 := List.pairwise_cons.1 hM
    have e : a = b := by
      rcases List.mem_cons.1 ((h a).1 (List.mem_cons_self ..)) with e | ha
      · exact e
      · rcases List.mem_cons.1 ((h b).2 (List.mem_cons_self ..)) with e | hb
        · exact e.symm
        · have := h1.1 _ hb; have := h2.1 _ ha; omega
    subst e
    congr 1
    refine sorted_ext h1.2 h2.2 fun z => ⟨fun hz => ?_, fun hz => ?_⟩
    · rcases List.mem_cons.1 ((h z).1 (List.mem_cons_of_mem _ hz)) with e | hz'
      · subst e; have := h1.1 _ hz; omega
      · exact hz'
    · rcases List.mem_cons.1 ((h z).2 (List.mem_cons_of_mem _ hz)) with e | hz'
      · subst e; have := h2.1 _ hz; omega
      · exact hz'
theorem lineOf_mem {L : List Lin} (h : lineOf L cr db cu = some x) : x ∈ L ∧ x.cr = cr ∧ x.db = db ∧ x.cu = cu := by
  refine ⟨List.mem_of_find?_eq_some h, ?_⟩
  have := List.find?_some h
  exact Lin.at_iff.1 this
theorem lineOf_none {L : List Lin} (h : lineOf L cr db cu = none) : ∀ x ∈ L, x.at cr db cu = false := by
  intro x hx
  have := List.find?_eq_none.1 h x hx
  simpa using this
theorem Lgr.Good.lineOf_iff (G : S.Good) : lineOf S.L cr db cu = some x ↔ x ∈ S.L ∧ x.at cr db cu = true := by
  constructor
  · intro h
    exact ⟨(lineOf_mem h).1, Lin.at_iff.2 (lineOf_mem h).2⟩
  · rintro ⟨hx, ha⟩
    cases h : lineOf S.L cr db cu with
    | none => rw [lineOf_none h x hx] at ha; cases ha
    | some y =>
      obtain ⟨hy, hy2⟩ := lineOf_mem h
      have hx2 := Lin.at_iff.1 ha
      congr 1
      refine G.uniq hy hx ?_
      unfold Lin.rank
      rw [hy2.1, hy2.2.1, hy2.2.2, hx2.1, hx2.2.1, hx2.2.2]
theorem isLine_iff {L : List Lin} : isLine L cr db cu = true ↔ ∃ x ∈ L, x.at cr db cu = true := by
  unfold isLine lineOf
  rw [List.find?_isSome]
theorem isLine_not {L : List Lin} : isLine L cr db cu = false ↔ ∀ x ∈ L, x.at cr db cu = false := by
  rw [Bool.eq_false_iff, ne_eq, isLine_iff]
  simp
theorem Lgr.Good.vals (G : S.Good) (hx : x ∈ S.L) : lineOf S.L x.cr x.db x.cu = some x ∧ limOf S.L x.cr x.db x.cu = x.lim ∧ debOf S.L x.cr x.db x.cu = x.deb ∧ isLine S.L x.cr x.db x.cu = true := by
  have h : lineOf S.L x.cr x.db x.cu = some x := G.lineOf_iff.2 ⟨hx, Lin.at_iff.2 ⟨rfl, rfl, rfl⟩⟩
  exact ⟨h, by simp [limOf, h], by simp [debOf, h], by simp [isLine, h]⟩
theorem Lgr.Good.noLine (h : isLine S.L cr db cu = false) : lineOf S.L cr db cu = none ∧ limOf S.L cr db cu = 0 ∧ debOf S.L cr db cu = 0 := by
  have h : lineOf S.L cr db cu = none := by unfold isLine at h; simpa using h
  exact ⟨h, by simp [limOf, h], by simp [debOf, h]⟩
/-- There is such a line; or there is none. -/
theorem Lgr.Good.split (G : S.Good) (cr db cu : Int) : (∃ x ∈ S.L, x.cr = cr ∧ x.db = db ∧ x.cu = cu ∧ lineOf S.L cr db cu = some x ∧ limOf S.L cr db cu = x.lim ∧ debOf S.L cr db cu = x.deb ∧ isLine S.L cr db cu = true) ∨
    ((∀ x ∈ S.L, x.at cr db cu = false) ∧ lineOf S.L cr db cu = none ∧ limOf S.L cr db cu = 0 ∧ debOf S.L cr db cu = 0 ∧ isLine S.L cr db cu = false) := by
  cases h : isLine S.L cr db cu with
  | true =>
    obtain ⟨x, hx, ha⟩ := isLine_iff.1 h
    obtain ⟨rfl, rfl, rfl⟩ := Lin.at_iff.1 ha
    have := G.vals hx
    exact .inl ⟨x, hx, rfl, rfl, rfl, this.1, this.2.1, this.2.2.1, rfl⟩
  | false => exact .inr ⟨isLine_not.1 h, (noLine h).1, (noLine h).2.1, (noLine h).2.2, rfl⟩
theorem Lgr.Good.nums (G : S.Good) (cr db cu : Int) : 0 ≤ debOf S.L cr db cu ∧ debOf S.L cr db cu ≤ limOf S.L cr db cu ∧ limOf S.L cr db cu ≤ 1099511627776 := by
  rcases G.split cr db cu with ⟨x, hx, _, _, _, _, h2, h3, _⟩ | ⟨_, _, h2, h3, _⟩
  · have := G.ok x hx
    rw [h2, h3]
    exact ⟨this.deb.1, this.deb.2, this.lim.2⟩
  · rw [h2, h3]; omega
theorem Lgr.Good.noSelf (G : S.Good) (p cu : Int) : isLine S.L p p cu = false := by
  rw [isLine_not]
  intro x hx
  rw [Lin.at_not]
  rintro ⟨h1, h2, _⟩
  exact (G.ok x hx).ne (h1.trans h2.symm)
theorem Lgr.Good.inP (G : S.Good) (h : isLine S.L cr db cu = true) : cr ∈ S.P ∧ db ∈ S.P := by
  obtain ⟨x, hx, ha⟩ := isLine_iff.1 h
  obtain ⟨rfl, rfl, rfl⟩ := Lin.at_iff.1 ha
  exact ⟨(G.ok x hx).cr, (G.ok x hx).db⟩
theorem Lgr.Good.room (G : S.Good) (f t c : Int) : 0 ≤ roomOf S f t c ∧ roomOf S f t c ≤ 2199023255552 := by
  have h1 := G.nums f t c
  have h2 := G.nums t f c
  unfold roomOf
  omega
/-- The room of the chapter: none of one's own, nor of who is not there. -/
theorem Lgr.Good.room0 (G : S.Good) {f t : Int} (c : Int) (h : f = t ∨ f ∉ S.P ∨ t ∉ S.P) : roomOf S f t c = 0 := by
  have h1 : isLine S.L f t c = false := by
    rcases h with rfl | h | h
    · exact G.noSelf f c
    · cases hl : isLine S.L f t c with
      | false => rfl
      | true => exact absurd (G.inP hl).1 h
    · cases hl : isLine S.L f t c with
      | false => rfl
      | true => exact absurd (G.inP hl).2 h
  have h2 : isLine S.L t f c = false := by
    rcases h with rfl | h | h
    · exact G.noSelf f c
    · cases hl : isLine S.L t f c with
      | false => rfl
      | true => exact absurd (G.inP hl).2 h
    · cases hl : isLine S.L t f c with
      | false => rfl
      | true => exact absurd (G.inP hl).1 h
  unfold roomOf
  rw [(noLine h1).2.2, (noLine h2).2.1, (noLine h2).2.2]
  rfl

/-! Keeping. -/
theorem insP_mem {P : List Int} {p q : Int} : q ∈ insP P p ↔ q ∈ P ∨ q = p := by
  unfold insP
  simp only [List.mem_append, List.mem_filter, List.mem_cons, decide_eq_true_eq]
  constructor
  · rintro (⟨h, _⟩ | rfl | ⟨h, _⟩)
    · exact .inl h
    · exact .inr rfl
    · exact .inl h
  · rintro (h | rfl)
    · rcases Int.lt_trichotomy q p with h' | rfl | h'
      · exact .inl ⟨h, h'⟩
      · exact .inr (.inl rfl)
      · exact .inr (.inr ⟨h, h'⟩)
    · exact .inr (.inl rfl)
theorem insP_sorted {P : List Int} (h : P.Pairwise (· < ·)) (p : Int) : (insP P p).Pairwise (· < ·) := by
  unfold insP
  rw [List.pairwise_append, List.pairwise_cons]
  refine ⟨h.filter _, ⟨?_, h.filter _⟩, ?_⟩
  · intro q hq
    have := (List.mem_filter.1 hq).2
    simpa using this
  · intro a ha b hb
    have h1 : a < p := by simpa using (List.mem_filter.1 ha).2
    rcases List.mem_cons.1 hb with rfl | hb
    · exact h1
    · have h2 : p < b := by simpa using (List.mem_filter.1 hb).2
      omega
theorem openE_ok {p : Int} (h : openE S p = 0) : (1 ≤ p ∧ p ≤ 16) ∧ p ∉ S.P := by
  unfold openE at h
  split at h
  · omega
  · split at h
    · omega
    · exact ⟨by omega, by assumption⟩
theorem Lgr.Good.open (G : S.Good) (p : Int) : (openS S p).Good := by
  unfold openS
  split
  · rename_i h
    obtain ⟨h1, h2⟩ := openE_ok h
    refine ⟨insP_sorted G.par p, fun q hq => ?_, G.ord, fun x hx => ?_, G.few⟩
    · rcases insP_mem.1 hq with hq | rfl
      · exact G.par1 q hq
      · exact h1
    · have := G.ok x hx
      exact ⟨insP_mem.2 (.inl this.cr), insP_mem.2 (.inl this.db), this.ne, this.cu, this.lim, this.deb⟩
  · exact G
theorem setL_mem {L : List Lin} {x z : Lin} : z ∈ setL L x ↔ (z ∈ L ∧ z.rank ≠ x.rank) ∨ (x.lim ≠ 0 ∧ z = x) := by
  unfold setL
  simp only [List.mem_append, List.mem_filter, decide_eq_true_eq]
  constructor
  · rintro ((⟨h, h'⟩ | h) | ⟨h, h'⟩)
    · exact .inl ⟨h, by omega⟩
    · split at h
      · cases h
      · exact .inr ⟨by assumption, by simpa using h⟩
    · exact .inl ⟨h, by omega⟩
  · rintro (⟨h, h'⟩ | ⟨h, rfl⟩)
    · rcases Int.lt_or_gt_of_ne h' with h' | h'
      · exact .inl (.inl ⟨h, h'⟩)
      · exact .inr ⟨h, h'⟩
    · exact .inl (.inr (by rw [if_neg h]; simp))
theorem setL_sorted {L : List Lin} (h : L.Pairwise (fun x y => x.rank < y.rank)) (x : Lin) : (setL L x).Pairwise (fun x y => x.rank < y.rank) := by
  unfold setL
  rw [List.pairwise_append, List.pairwise_append]
  refine ⟨⟨h.filter _, ?_, ?_⟩, h.filter _, ?_⟩
  · split <;> simp
  · intro a ha b hb
    have h1 : a.rank < x.rank := by simpa using (List.mem_filter.1 ha).2
    split at hb
    · cases hb
    · obtain rfl : b = x := by simpa using hb
      exact h1
  · intro a ha b hb
    have h2 : x.rank < b.rank := by simpa using (List.mem_filter.1 hb).2
    rcases List.mem_append.1 ha with ha | ha
    · have h1 : a.rank < x.rank := by simpa using (List.mem_filter.1 ha).2
      omega
    · split at ha
      · cases ha
      · obtain rfl : a = x := by simpa using ha
        exact h2
theorem filter3_len (L : List Lin) (r : Int) : (L.filter (fun y => decide (y.rank < r))).length + (L.filter (fun y => decide (r < y.rank))).length + (L.filter (fun y => decide (y.rank = r))).length = L.length := by
  induction L with
  | nil => rfl
  | cons a L ih =>
    simp only [List.filter_cons]
    rcases Int.lt_trichotomy a.rank r with h | h | h
    · simp [h, show ¬ r < a.rank by omega, show ¬ a.rank = r by omega]; omega
    · simp [h]; omega
    · simp [h, show ¬ a.rank < r by omega, show ¬ a.rank = r by omega]; omega
theorem setL_len (L : List Lin) (x : Lin) : (setL L x).length + (L.filter (fun y => decide (y.rank = x.rank))).length = L.length + (if x.lim = 0 then 0 else 1) := by
  have := filter3_len L x.rank
  unfold setL
  simp only [List.length_append]
  split
  · simp; omega
  · simp; omega
theorem trustE_ok {lim : Int} (h : trustE S cr db cu lim = 0) : ¬ badEnds cr db cu ∧ 0 ≤ lim ∧ lim ≤ 1099511627776 ∧ cr ∈ S.P ∧ db ∈ S.P ∧ debOf S.L cr db cu ≤ lim ∧ ¬ (isLine S.L cr db cu = false ∧ 0 < lim ∧ 64 ≤ S.L.length) := by
  unfold trustE at h
  split at h
  · omega
  · rename_i h1
    split at h
    · omega
    · rename_i h2
      split at h
      · omega
      · split at h
        · omega
        · rename_i h4
          simp only [not_or, Decidable.not_not] at h1 h2
          exact ⟨h1.1, by omega, by omega, h2.1, h2.2, by omega, h4⟩
theorem Lgr.Good.trust (G : S.Good) (cr db cu lim : Int) : (trustS S cr db cu lim).Good := by
  unfold trustS
  split
  · rename_i h
    obtain ⟨h1, h2, h3, h4, h5, h6, h7⟩ := trustE_ok h
    have hc := G.par1 cr h4
    have hd := G.par1 db h5
    have hn := G.nums cr db cu
    refine ⟨G.par, G.par1, setL_sorted G.ord _, fun x hx => ?_, ?_⟩
    · rcases setL_mem.1 hx with ⟨hx, _⟩ | ⟨hl, rfl⟩
      · exact G.ok x hx
      · unfold badEnds at h1
        exact ⟨h4, h5, (by simp only; omega), (by simp only; omega), (by simp only at *; omega), (by simp only at *; omega)⟩
    · have hlen := setL_len S.L ⟨cr, db, cu, lim, debOf S.L cr db cu⟩
      have hf := G.few
      cases hl : isLine S.L cr db cu with
      | false =>
        simp only at hlen ⊢
        by_cases h0 : lim = 0
        · rw [if_pos h0] at hlen; omega
        · rw [if_neg h0] at hlen
          have : ¬ (64 ≤ S.L.length) := fun h' => h7 ⟨hl, by omega, h'⟩
          omega
      | true =>
        obtain ⟨x, hx, ha⟩ := isLine_iff.1 hl
        have hr : x.rank = (⟨cr, db, cu, lim, debOf S.L cr db cu⟩ : Lin).rank := (G.rank_at hx (by simp only; omega) (by simp only; omega)).2 ha
        have : 0 < (S.L.filter (fun y => decide (y.rank = (⟨cr, db, cu, lim, debOf S.L cr db cu⟩ : Lin).rank))).length := List.length_pos_of_mem (List.mem_filter.2 ⟨hx, by simpa using hr⟩)
        simp only at hlen this ⊢
        split at hlen <;> omega
  · exact G
theorem addL_len (L : List Lin) (cr db cu n : Int) : (addL L cr db cu n).length = L.length := by simp [addL]
theorem addL_ranks (L : List Lin) (cr db cu n : Int) : (addL L cr db cu n).map (·.rank) = L.map (·.rank) := by
  unfold addL
  rw [List.map_map]
  refine List.map_congr_left fun x _ => ?_
  simp only [Function.comp]
  split <;> rfl
theorem addL_mem {L : List Lin} {n : Int} {z : Lin} (h : z ∈ addL L cr db cu n) : ∃ x ∈ L, z.cr = x.cr ∧ z.db = x.db ∧ z.cu = x.cu ∧ z.lim = x.lim ∧ z.deb = x.deb + (if x.at cr db cu then n else 0) := by
  obtain ⟨x, hx, rfl⟩ := List.mem_map.1 h
  refine ⟨x, hx, ?_⟩
  by_cases ha : x.at cr db cu = true
  · simp [ha]
  · simp [ha]
theorem Lgr.Good.add (G : S.Good) {n : Int} (h0 : 0 ≤ debOf S.L cr db cu + n) (h1 : debOf S.L cr db cu + n ≤ limOf S.L cr db cu) : (⟨S.P, addL S.L cr db cu n⟩ : Lgr).Good := by
  refine ⟨G.par, G.par1, ?_, fun z hz => ?_, by rw [addL_len]; exact G.few⟩
  · have : ((addL S.L cr db cu n).map (·.rank)).Pairwise (· < ·) := by rw [addL_ranks, List.pairwise_map]; exact G.ord
    rwa [List.pairwise_map] at this
  · obtain ⟨x, hx, e1, e2, e3, e4, e5⟩ := addL_mem hz
    have ok := G.ok x hx
    refine ⟨by rw [e1]; exact ok.cr, by rw [e2]; exact ok.db, by rw [e1, e2]; exact ok.ne, by rw [e3]; exact ok.cu, by rw [e4]; exact ok.lim, ?_⟩
    rw [e4, e5]
    split
    · rename_i ha
      obtain ⟨rfl, rfl, rfl⟩ := Lin.at_iff.1 ha
      have := G.vals hx
      rw [this.2.2.1] at h0 h1
      rw [this.2.1] at h1
      exact ⟨h0, h1⟩
    · have := ok.deb; omega
theorem lineOf_add (L : List Lin) (cr db cu n a b c : Int) : lineOf (addL L cr db cu n) a b c = (lineOf L a b c).map fun x => if x.at cr db cu then { x with deb := x.deb + n } else x := by
  unfold lineOf addL
  rw [List.find?_map]
  congr 1
  refine congrArg (fun f => List.find? f L) ?_
  funext x
  simp only [Function.comp]
  split <;> rfl
theorem limOf_add (L : List Lin) (cr db cu n a b c : Int) : limOf (addL L cr db cu n) a b c = limOf L a b c := by
  unfold limOf
  rw [lineOf_add, Option.map_map]
  congr 2
  funext x
  simp only [Function.comp]
  split <;> rfl
theorem isLine_add (L : List Lin) (cr db cu n a b c : Int) : isLine (addL L cr db cu n) a b c = isLine L a b c := by
  unfold isLine
  rw [lineOf_add]
  simp
theorem debOf_add (L : List Lin) (cr db cu n a b c : Int) : debOf (addL L cr db cu n) a b c = debOf L a b c + (if isLine L a b c = true ∧ a = cr ∧ b = db ∧ c = cu then n else 0) := by
  unfold debOf
  rw [lineOf_add]
  cases h : lineOf L a b c with
  | none => simp [isLine, h]
  | some x =>
    obtain ⟨_, rfl, rfl, rfl⟩ := lineOf_mem h
    simp only [Option.map_some, Option.getD_some, isLine, h, Option.isSome_some, true_and]
    by_cases ha : x.at cr db cu = true
    · rw [if_pos ha, if_pos (Lin.at_iff.1 ha)]
    · rw [if_neg ha, if_neg (fun h' => ha (Lin.at_iff.2 h'))]; simp
theorem addL_zero (L : List Lin) (cr db cu : Int) : addL L cr db cu 0 = L := by
  unfold addL
  conv => rhs; rw [← List.map_id L]
  refine List.map_congr_left fun x _ => ?_
  simp
theorem addL_none {L : List Lin} {n : Int} (h : isLine L cr db cu = false) : addL L cr db cu n = L := by
  unfold addL
  conv => rhs; rw [← List.map_id L]
  refine List.map_congr_left fun x hx => ?_
  simp [isLine_not.1 h x hx]
/-- The parts of a push. -/
theorem Lgr.Good.push0 (G : S.Good) {f t c n : Int} (h : pushE S f t c n = 0) : 1 ≤ n ∧ n ≤ roomOf S f t c ∧ f ≠ t ∧ f ∈ S.P ∧ t ∈ S.P := by
  unfold pushE at h
  split at h
  · omega
  · split at h
    · omega
    · refine ⟨by omega, by omega, ?_, ?_, ?_⟩
      · intro e; have := G.room0 c (.inl e); omega
      · refine Decidable.byContradiction fun e => ?_
        have := G.room0 (t := t) c (.inr (.inl e)); omega
      · refine Decidable.byContradiction fun e => ?_
        have := G.room0 (f := f) c (.inr (.inr e)); omega
theorem Lgr.Good.pushA (G : S.Good) {f t c n : Int} (h : pushE S f t c n = 0) : (⟨S.P, addL S.L f t c (-fallOf S f t c n)⟩ : Lgr).Good := by
  obtain ⟨h1, h2, h3, _⟩ := G.push0 h
  have hn := G.nums f t c
  refine G.add ?_ ?_
  · unfold fallOf; omega
  · unfold fallOf; omega
theorem Lgr.Good.push (G : S.Good) (f t c n : Int) : (pushS S f t c n).Good := by
  unfold pushS
  split
  · rename_i h
    obtain ⟨h1, h2, h3, _⟩ := G.push0 h
    have hn := G.nums t f c
    have hn2 := G.nums f t c
    refine (G.pushA h).add ?_ ?_
    · simp only [debOf_add]
      rw [if_neg (fun e => h3 e.2.1.symm)]
      unfold fallOf; omega
    · simp only [debOf_add, limOf_add]
      rw [if_neg (fun e => h3 e.2.1.symm)]
      unfold fallOf roomOf at *; omega
  · exact G
theorem Lgr.Good.forg (G : S.Good) (cr db cu n : Int) : (forgS S cr db cu n).Good := by
  unfold forgS
  split
  · rename_i h
    have hn := G.nums cr db cu
    unfold forgE at h
    split at h
    · omega
    · split at h
      · omega
      · split at h
        · omega
        · refine G.add ?_ ?_ <;> omega
  · exact G
end
end Go.Proofs.YtgobnamhdkbbeaaGreat

/- A ledger's map: its lines as pairs; what a look, a put, a delete make of it. -/
namespace Go.Proofs.YtgobnamhdkbbeaaGreat
open Go.RowKit
abbrev ends (cr : Int) (db : Int) (cu : Int) : Array Value := #[.int .u8 cr, .int .u8 db, .int .u8 cu]
section
variable (cr : Int) (db : Int) (cu : Int)
theorem ends_sz : (ends cr db cu).size = 3 := rfl
theorem ends_g0 : (ends cr db cu)[0]? = some (.int .u8 cr) := rfl
theorem ends_g1 : (ends cr db cu)[1]? = some (.int .u8 db) := rfl
theorem ends_g2 : (ends cr db cu)[2]? = some (.int .u8 cu) := rfl
end
abbrev owe (lim : Int) (deb : Int) : Array Value := #[.int .i64 lim, .int .i64 deb]
section
variable (lim : Int) (deb : Int)
theorem owe_sz : (owe lim deb).size = 2 := rfl
theorem owe_g0 : (owe lim deb)[0]? = some (.int .i64 lim) := rfl
theorem owe_s0 (v : Int) : (owe lim deb).setIfInBounds 0 (.int .i64 v) = owe v deb := rfl
theorem owe_g1 : (owe lim deb)[1]? = some (.int .i64 deb) := rfl
theorem owe_s1 (v : Int) : (owe lim deb).setIfInBounds 1 (.int .i64 v) = owe lim v := rfl
end
abbrev keyL (cr db cu : Int) : Value := .agg (ends cr db cu)
abbrev valL (lim deb : Int) : Value := .agg (owe lim deb)
def kvL (x : Lin) : Value × Value := (keyL x.cr x.db x.cu, valL x.lim x.deb)
def prs (L : List Lin) : List (Value × Value) := L.map kvL
theorem prs_len (L : List Lin) : (prs L).length = L.length := by simp [prs]
theorem keyL_inj {a b c a' b' c' : Int} : keyL a b c = keyL a' b' c' ↔ a = a' ∧ b = b' ∧ c = c' := by simp [keyL]
section
variable {S : Lgr} {x : Lin} {cr db cu : Int}
theorem look_line (G : S.Good) (cr db cu : Int) : Look (prs S.L) (keyL cr db cu) (valL 0 0) (isLine S.L cr db cu) (valL (limOf S.L cr db cu) (debOf S.L cr db cu)) := by
  rcases G.split cr db cu with ⟨x, hx, e1, e2, e3, _, h2, h3, h4⟩ | ⟨hn, _, h2, h3, h4⟩
  · rw [h2, h3, h4]
    exact .inl ⟨rfl, List.mem_map.2 ⟨x, hx, by rw [kvL, e1, e2, e3]⟩⟩
  · rw [h2, h3, h4]
    refine .inr ⟨rfl, rfl, fun e he hk => ?_⟩
    obtain ⟨x, hx, rfl⟩ := List.mem_map.1 he
    have := hn x hx
    rw [Lin.at_not] at this
    exact this (keyL_inj.1 hk)
def Small (x : Lin) : Prop := (0 ≤ x.cr ∧ x.cr < 256) ∧ (0 ≤ x.db ∧ x.db < 256)
theorem Lgr.Good.smalls (G : S.Good) : ∀ x ∈ S.L, Small x := fun x hx => by
  have := G.small hx
  unfold Small; omega
theorem sorted_nodup {L : List Lin} (h : L.Pairwise (fun x y => x.rank < y.rank)) : L.Nodup := h.imp (fun h e => by rw [e] at h; omega)
def restL (L : List Lin) (x : Lin) : List Lin := L.filter (fun y => decide (y.rank ≠ x.rank))
theorem restL_mem {L : List Lin} {z : Lin} : z ∈ restL L x ↔ z ∈ L ∧ z.rank ≠ x.rank := by simp [restL]
theorem without {L : List Lin} (ho : L.Pairwise (fun x y => x.rank < y.rank)) (hs : ∀ y ∈ L, Small y) (hx : Small x) :
    (∀ e ∈ prs (restL L x), e.1 ≠ keyL x.cr x.db x.cu) ∧ ((prs L).Perm (prs (restL L x)) ∨ ∃ v0, (prs L).Perm ((keyL x.cr x.db x.cu, v0) :: prs (restL L x))) := by
  refine ⟨fun e he hk => ?_, ?_⟩
  · obtain ⟨y, hy, rfl⟩ := List.mem_map.1 he
    obtain ⟨h1, h2, h3⟩ := keyL_inj.1 hk
    refine (restL_mem.1 hy).2 ?_
    unfold Lin.rank
    rw [h1, h2, h3]
  · by_cases h : ∃ y ∈ L, y.rank = x.rank
    · obtain ⟨y, hy, hr⟩ := h
      have hsy := hs y hy
      unfold Small at hsy hx
      obtain ⟨e1, e2, e3⟩ := rank_inj hsy.1 hsy.2 hx.1 hx.2 hr
      refine .inr ⟨valL y.lim y.deb, ?_⟩
      have hp : L.Perm (y :: restL L x) := by
        refine (List.perm_ext_iff_of_nodup (sorted_nodup ho) (List.nodup_cons.2 ⟨fun h => (restL_mem.1 h).2 hr, (sorted_nodup ho).filter _⟩)).2 fun z => ?_
        rw [List.mem_cons, restL_mem]
        constructor
        · intro hz
          by_cases e : z.rank = x.rank
          · exact .inl (pw_inj ho hz hy (e.trans hr.symm))
          · exact .inr ⟨hz, e⟩
        · rintro (rfl | h)
          · exact hy
          · exact h.1
      have := hp.map kvL
      rw [List.map_cons] at this
      rw [show kvL y = (keyL x.cr x.db x.cu, valL y.lim y.deb) by rw [kvL, e1, e2, e3]] at this
      exact this
    · refine .inl ?_
      have : restL L x = L := List.filter_eq_self.2 fun y hy => by
        simp only [decide_eq_true_eq]
        exact fun e => h ⟨y, hy, e⟩
      rw [this]
theorem setL_perm {L : List Lin} (ho : L.Pairwise (fun x y => x.rank < y.rank)) (h : x.lim ≠ 0) : (setL L x).Perm (x :: restL L x) := by
  refine (List.perm_ext_iff_of_nodup (sorted_nodup (setL_sorted ho x)) (List.nodup_cons.2 ⟨fun h => (restL_mem.1 h).2 rfl, (sorted_nodup ho).filter _⟩)).2 fun z => ?_
  rw [setL_mem, List.mem_cons, restL_mem]
  constructor
  · rintro (h' | ⟨_, rfl⟩)
    · exact .inr h'
    · exact .inl rfl
  · rintro (rfl | h')
    · exact .inr ⟨h, rfl⟩
    · exact .inl h'
theorem setL_perm0 {L : List Lin} (ho : L.Pairwise (fun x y => x.rank < y.rank)) (h : x.lim = 0) : (setL L x).Perm (restL L x) := by
  refine (List.perm_ext_iff_of_nodup (sorted_nodup (setL_sorted ho x)) ((sorted_nodup ho).filter _)).2 fun z => ?_
  show _ ↔ z ∈ restL L x
  rw [setL_mem, restL_mem]
  constructor
  · rintro (h' | ⟨h', _⟩)
    · exact h'
    · exact absurd h h'
  · exact .inl
theorem put_set {L : List Lin} (ho : L.Pairwise (fun x y => x.rank < y.rank)) (hs : ∀ y ∈ L, Small y) (hx : Small x) (h : x.lim ≠ 0) : PutM (prs L) (keyL x.cr x.db x.cu) (valL x.lim x.deb) (prs (setL L x)) :=
  ⟨prs (restL L x), (without ho hs hx).1, (without ho hs hx).2, (setL_perm ho h).map kvL⟩
theorem del_set {L : List Lin} (ho : L.Pairwise (fun x y => x.rank < y.rank)) (hs : ∀ y ∈ L, Small y) (hx : Small x) (h : x.lim = 0) : DelM (prs L) (keyL x.cr x.db x.cu) (prs (setL L x)) :=
  ⟨prs (restL L x), (without ho hs hx).1, (without ho hs hx).2, (setL_perm0 ho h).map kvL⟩
theorem addL_sorted {L : List Lin} (ho : L.Pairwise (fun x y => x.rank < y.rank)) (n : Int) : (addL L cr db cu n).Pairwise (fun x y => x.rank < y.rank) := by
  have : ((addL L cr db cu n).map (·.rank)).Pairwise (· < ·) := by rw [addL_ranks, List.pairwise_map]; exact ho
  rwa [List.pairwise_map] at this
/-- More of a debt: a line set anew. -/
theorem Lgr.Good.add_set (G : S.Good) (hl : isLine S.L cr db cu = true) (n : Int) : addL S.L cr db cu n = setL S.L ⟨cr, db, cu, limOf S.L cr db cu, debOf S.L cr db cu + n⟩ := by
  obtain ⟨x, hx, ha⟩ := isLine_iff.1 hl
  obtain ⟨rfl, rfl, rfl⟩ := Lin.at_iff.1 ha
  obtain ⟨_, h2, h3, _⟩ := G.vals hx
  rw [h2, h3]
  have hlim : x.lim ≠ 0 := by have := (G.ok x hx).lim; omega
  refine sorted_ext (addL_sorted G.ord n) (setL_sorted G.ord _) fun z => ?_
  rw [setL_mem]
  unfold addL
  rw [List.mem_map]
  constructor
  · rintro ⟨y, hy, rfl⟩
    by_cases hya : y.at x.cr x.db x.cu = true
    · rw [if_pos hya]
      have e := Lin.at_iff.1 hya
      have : y = x := G.uniq hy hx (by unfold Lin.rank; rw [e.1, e.2.1, e.2.2])
      subst this
      exact .inr ⟨hlim, rfl⟩
    · rw [if_neg hya]
      refine .inl ⟨hy, fun e => hya ?_⟩
      have : y = x := G.uniq hy hx e
      subst this
      exact ha
  · rintro (⟨hz, hr⟩ | ⟨_, rfl⟩)
    · refine ⟨z, hz, ?_⟩
      rw [if_neg]
      intro hza
      have e := Lin.at_iff.1 hza
      exact hr (by unfold Lin.rank; rw [e.1, e.2.1, e.2.2])
    · exact ⟨x, hx, by rw [if_pos ha]⟩
end
end Go.Proofs.YtgobnamhdkbbeaaGreat

/- Positions and totals of a ledger's lines. -/
namespace Go.Proofs.YtgobnamhdkbbeaaGreat
section
variable {S : Lgr} {L : List Lin} {cr db cu : Int}
theorem totL_snoc (L : List Lin) (x : Lin) (c : Int) : totL (L ++ [x]) c = totL L c + (if x.cu = c then x.deb else 0) := by simp [totL]
theorem totL_bound (h : ∀ x ∈ L, 0 ≤ x.deb ∧ x.deb ≤ 1099511627776) (c : Int) : 0 ≤ totL L c ∧ totL L c ≤ 1099511627776 * (L.length : Int) := by
  induction L with
  | nil => simp [totL]
  | cons x L ih =>
    have := ih (fun y hy => h y (List.mem_cons_of_mem _ hy))
    have h0 := h x (List.mem_cons_self ..)
    unfold totL at *
    simp only [List.map_cons, List.sum_cons, List.length_cons, Int.natCast_add, Int.natCast_one]
    split <;> omega
theorem Lgr.Good.debs (G : S.Good) : ∀ x ∈ S.L, 0 ≤ x.deb ∧ x.deb ≤ 1099511627776 := fun x hx => by
  have := G.ok x hx
  have h1 := this.lim
  have h2 := this.deb
  omega
theorem Lgr.Good.totB (G : S.Good) (c : Int) : 0 ≤ totL S.L c ∧ totL S.L c ≤ 70368744177664 := by
  have := totL_bound G.debs c
  have := G.few
  omega
/-! A push. -/
end
end Go.Proofs.YtgobnamhdkbbeaaGreat

/- Ledgers as lists: the document's ways to make them (a line set in its place; a party put among others). -/
namespace Go.Proofs.YtgobnamhdkbbeaaGreat
/-- A line set in its place, going through the lines (put: it is put already, or is none). -/
def setR (x : Lin) : List Lin → Bool → List Lin
  | [], put => if put then [] else [x]
  | y :: ys, put => if y.rank = x.rank then setR x ys put else if put = false ∧ x.rank < y.rank then x :: y :: setR x ys true else y :: setR x ys put
theorem setR_true (x : Lin) : ∀ L : List Lin, setR x L true = L.filter fun y => decide (y.rank ≠ x.rank)
  | [] => rfl
  | y :: ys => by
    unfold setR
    by_cases h : y.rank = x.rank
    · rw [if_pos h, setR_true x ys, List.filter_cons_of_neg (by simp [h])]
    · rw [if_neg h, if_neg (by simp), setR_true x ys, List.filter_cons_of_pos (by simp [h])]
theorem setR_gt (x : Lin) : ∀ L : List Lin, (∀ y ∈ L, x.rank < y.rank) → setR x L false = x :: L
  | [], _ => rfl
  | y :: ys, h => by
    have h1 := h y (List.mem_cons_self ..)
    unfold setR
    rw [if_neg (by omega), if_pos ⟨rfl, h1⟩, setR_true, List.filter_eq_self.2]
    intro z hz
    have := h z (List.mem_cons_of_mem _ hz)
    simp; omega
theorem filter_none {α : Type} {p : α → Bool} {l : List α} (h : ∀ y ∈ l, p y = false) : l.filter p = [] := by
  rw [List.filter_eq_nil_iff]
  intro y hy
  rw [h y hy]
  exact Bool.false_ne_true
theorem setR_false (x : Lin) : ∀ L : List Lin, L.Pairwise (fun x y => x.rank < y.rank) → setR x L false = L.filter (fun y => decide (y.rank < x.rank)) ++ x :: L.filter (fun y => decide (x.rank < y.rank))
  | [], _ => rfl
  | y :: ys, h => by
    have h1 := List.pairwise_cons.1 h
    rcases Int.lt_trichotomy y.rank x.rank with h' | h' | h'
    · unfold setR
      rw [if_neg (by omega), if_neg (by omega), setR_false x ys h1.2, List.filter_cons_of_pos (by simpa using h'), List.filter_cons_of_neg (by simp; omega)]
      rfl
    · unfold setR
      rw [if_pos h', setR_gt x ys (fun z hz => by have := h1.1 z hz; omega), List.filter_cons_of_neg (by simp; omega), List.filter_cons_of_neg (by simp; omega), filter_none (fun z hz => by have := h1.1 z hz; simp; omega), List.filter_eq_self.2 (fun z hz => by have := h1.1 z hz; simp; omega)]
      rfl
    · rw [setR_gt x (y :: ys) (fun z hz => by
        rcases List.mem_cons.1 hz with rfl | hz
        · exact h'
        · have := h1.1 z hz; omega)]
      rw [filter_none (fun z hz => by
        rcases List.mem_cons.1 hz with rfl | hz
        · simp; omega
        · have := h1.1 z hz; simp; omega), List.filter_eq_self.2 (fun z hz => by
        rcases List.mem_cons.1 hz with rfl | hz
        · simp; omega
        · have := h1.1 z hz; simp; omega)]
      rfl
theorem filter_ne_split {r : Int} : ∀ L : List Lin, L.Pairwise (fun x y => x.rank < y.rank) → L.filter (fun y => decide (y.rank ≠ r)) = L.filter (fun y => decide (y.rank < r)) ++ L.filter (fun y => decide (r < y.rank))
  | [], _ => rfl
  | y :: ys, h => by
    have h1 := List.pairwise_cons.1 h
    rcases Int.lt_trichotomy y.rank r with h' | h' | h'
    · rw [List.filter_cons_of_pos (by simp; omega), List.filter_cons_of_pos (by simpa using h'), List.filter_cons_of_neg (by simp; omega), filter_ne_split ys h1.2]; rfl
    · rw [List.filter_cons_of_neg (by simp; omega), List.filter_cons_of_neg (by simp; omega), List.filter_cons_of_neg (by simp; omega), filter_ne_split ys h1.2]
    · rw [List.filter_eq_self.2 (fun z hz => by
        rcases List.mem_cons.1 hz with rfl | hz
        · simp; omega
        · have := h1.1 z hz; simp; omega), filter_none (fun z hz => by
        rcases List.mem_cons.1 hz with rfl | hz
        · simp; omega
        · have := h1.1 z hz; simp; omega), List.filter_eq_self.2 (fun z hz => by
        rcases List.mem_cons.1 hz with rfl | hz
        · simp; omega
        · have := h1.1 z hz; simp; omega)]
      rfl
theorem setR_eq {L : List Lin} (h : L.Pairwise (fun x y => x.rank < y.rank)) (x : Lin) : setR x L (decide (x.lim = 0)) = setL L x := by
  unfold setL
  by_cases h0 : x.lim = 0
  · rw [decide_eq_true h0, setR_true, if_pos h0, filter_ne_split L h]; simp
  · rw [decide_eq_false h0, setR_false x L h, if_neg h0]; simp
/-! A party among others. -/
def openU (P : List Int) (p : Int) : Nat → List Int
  | 0 => []
  | k + 1 => openU P p k ++ (if ((k + 1 : Nat) : Int) = p ∨ ((k + 1 : Nat) : Int) ∈ P then [((k + 1 : Nat) : Int)] else [])
theorem openU_mem (P : List Int) (p q : Int) : ∀ k, q ∈ openU P p k ↔ (1 ≤ q ∧ q ≤ k) ∧ (q = p ∨ q ∈ P)
  | 0 => by simp [openU]; omega
  | k + 1 => by
    rw [openU, List.mem_append, openU_mem P p q k]
    constructor
    · rintro (⟨h, h'⟩ | h)
      · exact ⟨by omega, h'⟩
      · split at h
        · rename_i h'
          obtain rfl : q = ((k + 1 : Nat) : Int) := by simpa using h
          exact ⟨by omega, h'⟩
        · cases h
    · rintro ⟨h, h'⟩
      by_cases e : q = ((k + 1 : Nat) : Int)
      · subst e
        rw [if_pos h']
        exact .inr (by simp)
      · exact .inl ⟨by omega, h'⟩
theorem openU_sorted (P : List Int) (p : Int) : ∀ k, (openU P p k).Pairwise (· < ·)
  | 0 => .nil
  | k + 1 => by
    rw [openU, List.pairwise_append]
    refine ⟨openU_sorted P p k, by split <;> simp, fun a ha b hb => ?_⟩
    have := (openU_mem P p a k).1 ha
    split at hb
    · obtain rfl : b = ((k + 1 : Nat) : Int) := by simpa using hb
      omega
    · cases hb
theorem openU_len (P : List Int) (p : Int) : ∀ k, (openU P p k).length ≤ k
  | 0 => by simp [openU]
  | k + 1 => by
    have := openU_len P p k
    rw [openU, List.length_append]
    split <;> simp <;> omega
theorem sortedI_ext : ∀ {L M : List Int}, L.Pairwise (· < ·) → M.Pairwise (· < ·) → (∀ z, z ∈ L ↔ z ∈ M) → L = M
  | [], [], _, _, _ => rfl
  | [], b :: M, _, _, h => by have := (h b).2 (List.mem_cons_self ..); cases this
  | a :: L, [], _, _, h => by have := (h a).1 (List.mem_cons_self ..); cases this
  | a :: L, b :: M, hL, hM, h => by
    have h1 := List.pairwise_cons.1 hL
    have h2 := List.pairwise_cons.1 hM
    have e : a = b := by
      rcases List.mem_cons.1 ((h a).1 (List.mem_cons_self ..)) with e | ha
      · exact e
      · rcases List.mem_cons.1 ((h b).2 (List.mem_cons_self ..)) with e | hb
        · exact e.symm
        · have := h1.1 _ hb; have := h2.1 _ ha; omega
    subst e
    congr 1
    refine sortedI_ext h1.2 h2.2 fun z => ⟨fun hz => ?_, fun hz => ?_⟩
    · rcases List.mem_cons.1 ((h z).1 (List.mem_cons_of_mem _ hz)) with e | hz'
      · subst e; have := h1.1 _ hz; omega
      · exact hz'
    · rcases List.mem_cons.1 ((h z).2 (List.mem_cons_of_mem _ hz)) with e | hz'
      · subst e; have := h2.1 _ hz; omega
      · exact hz'
theorem openU_eq {S : Lgr} (G : S.Good) {p : Int} (h : openE S p = 0) : openU S.P p 16 = insP S.P p := by
  obtain ⟨h1, h2⟩ := openE_ok h
  refine sortedI_ext (openU_sorted _ _ _) (insP_sorted G.par p) fun q => ?_
  rw [openU_mem, insP_mem]
  constructor
  · rintro ⟨_, h | h⟩
    · exact .inr h
    · exact .inl h
  · rintro (h | rfl)
    · exact ⟨G.par1 q h, .inr h⟩
    · exact ⟨h1, .inl rfl⟩
theorem sortedI_len : ∀ {L : List Int} {lo hi : Int}, L.Pairwise (· < ·) → (∀ z ∈ L, lo ≤ z ∧ z ≤ hi) → (L.length : Int) ≤ max 0 (hi - lo + 1)
  | [], _, _, _, _ => by simp; omega
  | a :: L, lo, hi, h, hb => by
    have h1 := List.pairwise_cons.1 h
    have ha := hb a (List.mem_cons_self ..)
    have := sortedI_len (lo := a + 1) (hi := hi) h1.2 (fun z hz => ⟨by have := h1.1 z hz; omega, (hb z (List.mem_cons_of_mem _ hz)).2⟩)
    simp only [List.length_cons, Int.natCast_add, Int.natCast_one]
    omega
theorem Lgr.Good.few16 {S : Lgr} (G : S.Good) : S.P.length ≤ 16 := by
  have := sortedI_len G.par G.par1
  omega
end Go.Proofs.YtgobnamhdkbbeaaGreat
