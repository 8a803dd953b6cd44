/- Blocks known whole, and arrays by value: they are loaded, stored and made as one thing, with no look at their cells. -/
import Derived.Test.YtacglcpjbepfnaaTail
import Derived.Laws.Rows
import Derived.Laws.IdiomCopy
import Derived.Deep.MidRow
import Derived.Lib.SmallJoins
namespace Go.Proofs.Ytacglcpjbepfnaa
open Go.RowKit

theorem heapAlloc (w : World) (o : Obj) : (w.alloc o).heap = w.heap.push o := rfl
def blk (w : World) (n : Nat) : Option Obj := w.heap[n]?
noncomputable def extBlk (w d : World) (n : Nat) : Option Obj := blk (World.ext w d) n
@[go_sem high] theorem blk_alloc (w : World) (o : Obj) (n : Nat) : blk (w.alloc o) n = if n = w.heap.size then some o else blk w n := by
  unfold blk
  split
  · rename_i h; subst h; exact heap_alloc_new w o
  · rename_i h
    show (w.heap.push o)[n]? = _
    rw [Array.getElem?_push, if_neg h]
@[go_sem high] theorem blk_ext (w d : World) (n : Nat) : blk (World.ext w d) n = if n < w.heap.size then blk w n else extBlk w d n := by
  split
  · rename_i h; exact ext_block w d h
  · rfl
@[go_sem high] theorem blk_drew (w : World) (n : Nat) : blk w.drew n = blk w n := rfl

/-- The block's contents are c now. -/
def setBlk (w : World) (n : Nat) (c : Array Value) : World := { w with heap := w.heap.modify n fun | .cells _ t f => .cells c t f | o => o }
noncomputable def extSetBlk (w d : World) (n : Nat) (c : Array Value) : World := setBlk (World.ext w d) n c
noncomputable def extSet (w d : World) (p : Addr) (v : Value) : World := (World.ext w d).setCell p v
@[go_sem high] theorem size_setBlk (w : World) (n : Nat) (c : Array Value) : (setBlk w n c).heap.size = w.heap.size := by simp [setBlk]
theorem setBlk_block (w : World) (n : Nat) (c : Array Value) (k : Nat) (h : k ≠ n) : (setBlk w n c).heap[k]? = w.heap[k]? := by
  simp only [setBlk, Array.getElem?_modify]; rw [if_neg (by omega)]
theorem setBlk_same (w : World) (n : Nat) (c c0 : Array Value) (t : TypeId) (f : Nat × Nat) (h : w.heap[n]? = some (.cells c0 t f)) : (setBlk w n c).heap[n]? = some (.cells c t f) := by
  simp only [setBlk, Array.getElem?_modify, h]; rfl
theorem World.eq_of {w w' : World} (h1 : w.heap = w'.heap) (h2 : w.tape = w'.tape) (h3 : w.drawn = w'.drawn) (h4 : w.os = w'.os) (h5 : w.output = w'.output) : w = w' := by
  cases w; cases w'; simp_all
@[go_sem high] theorem alloc_setBlk (w : World) (c0 : Array Value) (t : TypeId) (f : Nat × Nat) (n : Nat) (c : Array Value) :
    setBlk (w.alloc (.cells c0 t f)) n c = if n = w.heap.size then w.alloc (.cells c t f) else (setBlk w n c).alloc (.cells c0 t f) := by
  split
  · rename_i h
    subst h
    refine World.eq_of ?_ rfl rfl rfl rfl
    simp only [setBlk, heapAlloc]
    apply Array.ext_getElem?
    intro i
    rw [Array.getElem?_modify, Array.getElem?_push, Array.getElem?_push]
    by_cases e : i = w.heap.size
    · subst e; simp
    · rw [if_neg (by omega), if_neg e, if_neg e]
  · rename_i h
    refine World.eq_of ?_ rfl rfl rfl rfl
    simp only [setBlk, heapAlloc]
    apply Array.ext_getElem?
    intro i
    rw [Array.getElem?_modify, Array.getElem?_push, Array.getElem?_push, Array.getElem?_modify, Array.size_modify]
    by_cases e : i = w.heap.size
    · rw [if_pos e, if_pos e, if_neg (by omega)]
    · rw [if_neg e, if_neg e]
theorem ext_self {w d : World} (h : Below w.heap.size w d) : World.ext w d = d := by unfold World.ext; rw [if_pos h]
theorem below_setBlk {w d : World} {n : Nat} (c : Array Value) : Below (setBlk w n c).heap.size (setBlk w n c) (setBlk (World.ext w d) n c) := by
  have hb := ext_below w d
  refine ⟨hb.os, hb.tape, hb.output, by rw [size_setBlk, size_setBlk]; exact hb.size, fun k hk => ?_⟩
  rw [size_setBlk] at hk
  have hk' := hb.block k hk
  simp only [setBlk, Array.getElem?_modify, hk']
@[go_sem high] theorem ext_setBlk (w d : World) (n : Nat) (c : Array Value) : setBlk (World.ext w d) n c = if n < w.heap.size then World.ext (setBlk w n c) (extSetBlk w d n c) else extSetBlk w d n c := by
  split
  · exact (ext_self (below_setBlk c)).symm
  · rfl
theorem below_setCell {w d : World} {p : Addr} (v : Value) : Below (w.setCell p v).heap.size (w.setCell p v) ((World.ext w d).setCell p v) := by
  have hb := ext_below w d
  refine ⟨hb.os, hb.tape, hb.output, by simpa using hb.size, fun k hk => ?_⟩
  have hk' := hb.block k (by simpa using hk)
  simp only [World.setCell, Array.getElem?_modify, hk']
@[go_sem high] theorem ext_setCell (w d : World) (n i : Nat) (s : Option Nat) (v : Value) : (World.ext w d).setCell ⟨n, i, s⟩ v = if n < w.heap.size then World.ext (w.setCell ⟨n, i, s⟩ v) (extSet w d ⟨n, i, s⟩ v) else extSet w d ⟨n, i, s⟩ v := by
  split
  · exact (ext_self (below_setCell (p := ⟨n, i, s⟩) v)).symm
  · rfl
@[go_sem high] theorem alloc_setCell (w : World) (c : Array Value) (t : TypeId) (f : Nat × Nat) (n i : Nat) (v : Value) :
    (w.alloc (.cells c t f)).setCell ⟨n, i, none⟩ v = if n = w.heap.size then w.alloc (.cells (c.setIfInBounds i v) t f) else (w.setCell ⟨n, i, none⟩ v).alloc (.cells c t f) := by
  split
  · rename_i h
    subst h
    refine World.eq_of ?_ rfl rfl rfl rfl
    simp only [World.setCell, heapAlloc]
    apply Array.ext_getElem?
    intro j
    rw [Array.getElem?_modify, Array.getElem?_push, Array.getElem?_push]
    by_cases e : j = w.heap.size
    · subst e; simp
    · rw [if_neg (fun h => e h.symm), if_neg e, if_neg e]
  · rename_i h
    refine World.eq_of ?_ rfl rfl rfl rfl
    simp only [World.setCell, heapAlloc]
    apply Array.ext_getElem?
    intro j
    rw [Array.getElem?_modify, Array.getElem?_push, Array.getElem?_push, Array.getElem?_modify, Array.size_modify]
    by_cases e : j = w.heap.size
    · rw [if_pos e, if_pos e, if_neg (by omega)]
    · rw [if_neg e, if_neg e]

theorem blk_here {w : World} {o : Obj} {n : Nat} (h : n = w.heap.size) : blk (w.alloc o) n = some o := by rw [blk_alloc, if_pos h]
theorem blk_lt {w : World} {n : Nat} {o : Obj} (h : blk w n = some o) : n < w.heap.size := (Array.getElem?_eq_some_iff.1 h).1
theorem blk_past {w : World} {o o' : Obj} {n : Nat} (h : blk w n = some o') : blk (w.alloc o) n = some o' := by
  rw [blk_alloc, if_neg (by have := blk_lt h; omega), h]
theorem blk_extS {w d : World} {n : Nat} {o : Obj} (h : blk w n = some o) : blk (World.ext w d) n = some o := by
  rw [blk_ext, if_pos (blk_lt h), h]
theorem blk_drewS {w : World} {n : Nat} {o : Obj} (h : blk w n = some o) : blk w.drew n = some o := h
/-- Block n is there, and with c in it w is w'. -/
def SetTo (w : World) (n : Nat) (c : Array Value) (w' : World) : Prop := (∃ o, blk w n = some o) ∧ setBlk w n c = w'
theorem SetTo.here {w : World} {c0 : Array Value} {t : TypeId} {f : Nat × Nat} {n : Nat} {c : Array Value} (h : n = w.heap.size) : SetTo (w.alloc (.cells c0 t f)) n c (w.alloc (.cells c t f)) :=
  ⟨⟨_, blk_here h⟩, by rw [alloc_setBlk, if_pos h]⟩
theorem SetTo.past {w w' : World} {c0 : Array Value} {t : TypeId} {f : Nat × Nat} {n : Nat} {c : Array Value} (h : SetTo w n c w') : SetTo (w.alloc (.cells c0 t f)) n c (w'.alloc (.cells c0 t f)) := by
  obtain ⟨⟨o, ho⟩, h2⟩ := h
  exact ⟨⟨o, blk_past ho⟩, by rw [alloc_setBlk, if_neg (by have := blk_lt ho; omega), h2]⟩
theorem SetTo.ext {w w' d : World} {n : Nat} {c : Array Value} (h : SetTo w n c w') : SetTo (World.ext w d) n c (World.ext w' (extSetBlk w d n c)) := by
  obtain ⟨⟨o, ho⟩, h2⟩ := h
  exact ⟨⟨o, blk_extS ho⟩, by rw [ext_setBlk, if_pos (blk_lt ho), h2]⟩
theorem SetTo.drew {w w' : World} {n : Nat} {c : Array Value} (h : SetTo w n c w') : SetTo w.drew n c w'.drew := ⟨h.1, by rw [← h.2]; rfl⟩

/-- A type whose values are rows of n cells; z: its zero. -/
structure RowTy (T n : Nat) (z : Array Value) : Prop where
  und : ∃ d, Try.prog.underlying T = some d ∧ d.isRow = true
  size : (Try.prog.info? T).map (·.size) = some n
  zero : (Try.prog.info? T).bind (·.zero) = some (.agg z)
/-- n cells of one place each. -/
def Cells (n : Nat) (c : Array Value) : Prop := c.size = n ∧ c.all (·.oneCell') = true

section
variable {ops : Array Oper} {rest : List Oper} {o : Oper} {a : Act} {w : World} {Q : Exit → Act → World → Prop} {T n : Nat} {z : Array Value}
theorem wpl_loadR {dst : Option Tmp} {ty : TypeId} {pos : String} {after : Array Edge} {guard : Option (Nat × Bool)} {x : Operand} {b off : Nat} (RT : RowTy T n z) (hw : Region.wanted ⟨dst, .load T x, ty, pos, after, guard⟩ (yielded ops a.tmps) = true) (hx : a.eval x = .pointer (some ⟨b, off, none⟩))
    {c c1 : Array Value} {t : TypeId} {f : Nat × Nat} (hb : blk w b = some (.cells c t f)) (hn : off + n ≤ c.size) (he : c.extract off (off + n) = c1)
    (h : wpList Try.prog ops Q rest (a.put dst (.agg c1)) w) : wpList Try.prog ops Q (⟨dst, .load T x, ty, pos, after, guard⟩ :: rest) a w := by
  obtain ⟨d, hu, hd⟩ := RT.und
  subst he
  exact BigFrame.wpList_want hw fun K hK => wp_load_mid T x rfl b off hx (c.extract off (off + n)).toList d (World.rangeAt_of_block hb off n) hu hd (by rw [RT.size]; simp; omega) (hK _ _ (by rw [Array.toArray_toList]; exact h))
theorem run_loadR (RT : RowTy T n z) {w : World} {b off : Nat} {c : Array Value} {t : TypeId} {f : Nat × Nat} (hb : w.heap[b]? = some (.cells c t f)) (hn : off + n ≤ c.size) :
    (Instr.loadAt T (.pointer (some ⟨b, off, none⟩))).run Try.prog w = .ok (.agg (c.extract off (off + n))) w := by
  obtain ⟨d, hu, hd⟩ := RT.und
  have := run_loadAt_mid (P := Try.prog) w b off T (c.extract off (off + n)).toList d (World.rangeAt_of_block hb off n) hu hd (by rw [RT.size]; simp; omega)
  rw [Array.toArray_toList] at this
  exact this
theorem wpQ_loadR {dst : Option Tmp} {ty : TypeId} {pos : String} {after : Array Edge} {guard : Option (Nat × Bool)} {x : Operand} {b off : Nat} {W : World} {K : Act → Prop} (RT : RowTy T n z) (hw : Region.wanted ⟨dst, .load T x, ty, pos, after, guard⟩ (yielded ops a.tmps) = true) (hx : a.eval x = .pointer (some ⟨b, off, none⟩))
    {c c1 : Array Value} {t : TypeId} {f : Nat × Nat} (hb : blk W b = some (.cells c t f)) (hn : off + n ≤ c.size) (he : c.extract off (off + n) = c1)
    (h : wpQuiet Try.prog ops (fun w' => ∃ d, w' = World.ext W d) K rest (a.put dst (.agg c1))) : wpQuiet Try.prog ops (fun w' => ∃ d, w' = World.ext W d) K (⟨dst, .load T x, ty, pos, after, guard⟩ :: rest) a := by
  subst he
  refine BigFrame.wpQuiet_want hw fun K hK => ⟨_, ?_, hK _ h⟩
  rintro _ ⟨d, rfl⟩
  unfold Oper.quietAt execOp
  simp only [hx, Sem.run_bind, run_loadR RT (blk_extS (d := d) hb) hn]
  exact ⟨rfl, rfl⟩
/-- An operation that yields one value, in whatever world. -/
theorem wpl_pure (hw : Region.wanted o (yielded ops a.tmps) = true) (v : Value) (hv : ∀ w, (execOp a.eval o).run Try.prog w = .ok (.value v) w) (h : wpList Try.prog ops Q rest (a.put o.dst v) w) : wpList Try.prog ops Q (o :: rest) a w :=
  BigFrame.wpList_want hw fun K hK => by unfold Oper.wp; rw [hv]; exact hK _ _ h
theorem wpQ_pure {C : World → Prop} {K : Act → Prop} (hw : Region.wanted o (yielded ops a.tmps) = true) (v : Value) (hv : ∀ w, (execOp a.eval o).run Try.prog w = .ok (.value v) w) (h : wpQuiet Try.prog ops C K rest (a.put o.dst v)) : wpQuiet Try.prog ops C K (o :: rest) a :=
  BigFrame.wpQuiet_want hw fun K hK => ⟨v, fun w _ => by unfold Oper.quietAt; rw [hv]; exact ⟨rfl, rfl⟩, hK _ h⟩
/-- A type whose values lie in one cell. -/
structure CellTy (T : Nat) : Prop where
  und : ∃ d, Try.prog.underlying T = some d ∧ d.isRow = false
  size : (Try.prog.info? T).map (·.size) = some 1
theorem run_loadC (CT : CellTy T) {w : World} {b off : Nat} {c : Array Value} {t : TypeId} {f : Nat × Nat} {v : Value} (hb : w.heap[b]? = some (.cells c t f)) (hv : c[off]? = some v) :
    (Instr.loadAt T (.pointer (some ⟨b, off, none⟩))).run Try.prog w = .ok v w := by
  obtain ⟨d, hu, hd⟩ := CT.und
  have hagg : (isAgg T).run Try.prog w = .ok false w := by
    unfold isAgg
    rw [Sem.run_bind, run_underlying hu w]
    cases d <;> simp_all [TypeDesc.isRow]
  have hc : w.cell? ⟨b, off, none⟩ = some v := by rw [cell_of_row w b off c t f hb]; exact hv
  simp [Instr.loadAt, Instr.sureAddr, loadVar, Sem.run_bind, hagg, go_sem, hc]
theorem wpl_loadC {dst : Option Tmp} {ty : TypeId} {pos : String} {after : Array Edge} {guard : Option (Nat × Bool)} {x : Operand} {b off : Nat} (CT : CellTy T) (hw : Region.wanted ⟨dst, .load T x, ty, pos, after, guard⟩ (yielded ops a.tmps) = true) (hx : a.eval x = .pointer (some ⟨b, off, none⟩))
    {c : Array Value} {v : Value} {t : TypeId} {f : Nat × Nat} (hb : blk w b = some (.cells c t f)) (hv : c[off]? = some v) (h : wpList Try.prog ops Q rest (a.put dst v) w) : wpList Try.prog ops Q (⟨dst, .load T x, ty, pos, after, guard⟩ :: rest) a w :=
  BigFrame.wpList_want hw fun K hK => by
    unfold Oper.wp execOp
    simp only [hx, Sem.run_bind, run_loadC CT hb hv]
    exact hK _ _ h
/-- c0 with v written over its cells from off on. -/
def splice (c0 : Array Value) (off : Nat) (v : Array Value) : Array Value := (c0.toList.take off ++ v.toList ++ c0.toList.drop (off + v.size)).toArray
theorem splice_all {c0 v : Array Value} (h : v.size = c0.size) : splice c0 0 v = v := by
  unfold splice
  rw [List.take_zero, List.nil_append, List.drop_eq_nil_of_le (by simp; omega), List.append_nil]
theorem setCells_blk (b : Nat) : ∀ (vs : List Value) (k : Nat) (w : World) (c : Array Value) (t : TypeId) (f : Nat × Nat), w.heap[b]? = some (.cells c t f) → k + vs.length ≤ c.size →
    w.setCells b k vs = setBlk w b ((c.toList.take k ++ vs ++ c.toList.drop (k + vs.length)).toArray)
  | [], k, w, c, t, f, hb, hk => by
    simp only [World.setCells, List.append_nil, List.length_nil, Nat.add_zero, List.take_append_drop, Array.toArray_toList]
    refine World.eq_of ?_ rfl rfl rfl rfl
    apply Array.ext_getElem?
    intro j
    by_cases e : j = b
    · subst e; rw [hb, setBlk_same w j c c t f hb]
    · rw [setBlk_block _ _ _ _ e]
  | v :: vs, k, w, c, t, f, hb, hk => by
    rw [World.setCells, setCells_blk b vs (k + 1) (w.setCell ⟨b, k, none⟩ v) (c.setIfInBounds k v) t f (by
      have := Joins.block_setCell (i := k) hb v; exact this) (by simp at hk ⊢; omega)]
    have hl : k < c.toList.length := by simp at hk ⊢; omega
    have e : (List.take (k + 1) (c.setIfInBounds k v).toList ++ vs ++ List.drop (k + 1 + vs.length) (c.setIfInBounds k v).toList) = (List.take k c.toList ++ (v :: vs) ++ List.drop (k + (v :: vs).length) c.toList) := by
      rw [Array.toList_setIfInBounds, List.take_succ_eq_append_getElem (by simpa using hl), List.getElem_set_self, List.take_set, List.set_eq_of_length_le (by simp; omega), List.drop_set, if_pos (by omega)]
      simp only [List.length_cons, List.append_assoc, List.cons_append, List.nil_append]
      rw [show k + 1 + vs.length = k + (vs.length + 1) by omega]
    rw [e]
    refine World.eq_of ?_ rfl rfl rfl rfl
    apply Array.ext_getElem?
    intro j
    by_cases e : j = b
    · subst e; rw [setBlk_same _ j _ _ t f (Joins.block_setCell (i := k) hb v), setBlk_same _ j _ c t f hb]
    · rw [setBlk_block _ _ _ _ e, setBlk_block _ _ _ _ e, Below.heap_setCell _ _ _ _ e]
theorem wpl_storeR {dst : Option Tmp} {ty : TypeId} {pos : String} {after : Array Edge} {guard : Option (Nat × Bool)} {x y : Operand} {b off : Nat} {c : Array Value} (RT : RowTy T n z) (hw : Region.wanted ⟨dst, .store T x y, ty, pos, after, guard⟩ (yielded ops a.tmps) = true) (hx : a.eval x = .pointer (some ⟨b, off, none⟩)) (hy : a.eval y = .agg c) (hc : Cells n c)
    {c0 c1 : Array Value} {t : TypeId} {w' : World} (hb : blk w b = some (.cells c0 t (0, 0))) (hn : off + n ≤ c0.size) (hs : splice c0 off c = c1) (hp : SetTo w b c1 w')
    (h : wpList Try.prog ops Q rest (a.put dst undef) w') : wpList Try.prog ops Q (⟨dst, .store T x y, ty, pos, after, guard⟩ :: rest) a w := by
  obtain ⟨_, rfl⟩ := hp
  subst hs
  refine BigFrame.wpList_want hw fun K hK => wp_store_mid T x y rfl b off c hx hy (fun j hj => ⟨?_, frozen_of_row w b (off + j) c0 t hb⟩) (by rw [RT.size, hc.1]) hc.2 (hK _ _ ?_)
  · rw [cell_of_row w b (off + j) c0 t _ hb, Array.getElem?_eq_getElem (by have := hc.1; omega)]; rfl
  · rw [setCells_blk b c.toList off w c0 t _ hb (by have := hc.1; simp; omega)]
    unfold splice at h
    simpa using h
theorem wpl_storeC {dst : Option Tmp} {ty : TypeId} {pos : String} {after : Array Edge} {guard : Option (Nat × Bool)} {x y : Operand} {b off : Nat} {v : Value} (CT : CellTy T) (hw : Region.wanted ⟨dst, .store T x y, ty, pos, after, guard⟩ (yielded ops a.tmps) = true) (hx : a.eval x = .pointer (some ⟨b, off, none⟩)) (hy : a.eval y = v) (hc : v.cells = #[v] ∧ v.oneCell' = true)
    {c0 c1 : Array Value} {t : TypeId} {w' : World} (hb : blk w b = some (.cells c0 t (0, 0))) (hn : off < c0.size) (hs : c0.setIfInBounds off v = c1) (hp : SetTo w b c1 w')
    (h : wpList Try.prog ops Q rest (a.put dst undef) w') : wpList Try.prog ops Q (⟨dst, .store T x y, ty, pos, after, guard⟩ :: rest) a w := by
  obtain ⟨_, rfl⟩ := hp
  subst hs
  refine BigFrame.wpList_want hw fun K hK => ?_
  have hsz : (sizeOf T).run Try.prog w = .ok 1 w := by
    have := CT.size
    cases hi : Try.prog.info? T with
    | none => rw [hi] at this; cases this
    | some i => rw [hi] at this; simp at this; simp [sizeOf, typeInfo, hi, this, go_sem]
  have hcell : (w.cell? ⟨b, off, none⟩).isSome = true := by rw [cell_of_row w b off c0 t _ hb, Array.getElem?_eq_getElem hn]; rfl
  have hfr : w.frozen? ⟨b, off, none⟩ = false := frozen_of_row w b off c0 t hb
  have e : setBlk w b (c0.setIfInBounds off v) = w.setCell ⟨b, off, none⟩ v := by
    refine World.eq_of ?_ rfl rfl rfl rfl
    apply Array.ext_getElem?
    intro j
    by_cases e : j = b
    · subst e; rw [setBlk_same _ j _ c0 t _ hb, Joins.block_setCell (i := off) hb]
    · rw [setBlk_block _ _ _ _ e, Below.heap_setCell _ _ _ _ e]
  rw [e] at h
  obtain ⟨u, hu⟩ := Option.isSome_iff_exists.1 hcell
  unfold Oper.wp execOp
  simp only [hx, hy, Instr.storeAt, Instr.sureAddr, storeVar, Sem.run_bind, Sem.run_pure, Result.andThen_ok, hsz, hc.1]
  have hst : (store ⟨b, off, none⟩ v).run Try.prog w = .ok () (w.setCell ⟨b, off, none⟩ v) := by rw [run_store _ _ _ _ _ hc.2, hu]; simp [hfr]
  simp [storeCells, go_sem, hst]
  exact hK _ _ h
theorem wpl_storeB {dst : Option Tmp} {ty : TypeId} {pos : String} {after : Array Edge} {guard : Option (Nat × Bool)} {x y : Operand} {b off : Nat} {v : Bool} (CT : CellTy T) (hw : Region.wanted ⟨dst, .store T x y, ty, pos, after, guard⟩ (yielded ops a.tmps) = true) (hx : a.eval x = .pointer (some ⟨b, off, none⟩)) (hy : a.eval y = .bool v)
    {c0 c1 : Array Value} {t : TypeId} {w' : World} (hb : blk w b = some (.cells c0 t (0, 0))) (hn : off < c0.size) (hs : c0.setIfInBounds off (.bool v) = c1) (hp : SetTo w b c1 w')
    (h : wpList Try.prog ops Q rest (a.put dst undef) w') : wpList Try.prog ops Q (⟨dst, .store T x y, ty, pos, after, guard⟩ :: rest) a w := wpl_storeC CT hw hx hy ⟨rfl, rfl⟩ hb hn hs hp h
theorem wpl_allocR {dst : Option Tmp} {ty : TypeId} {pos : String} {after : Array Edge} {guard : Option (Nat × Bool)} (RT : RowTy T n z) (hw : Region.wanted ⟨dst, .alloc T, ty, pos, after, guard⟩ (yielded ops a.tmps) = true) (h : wpList Try.prog ops Q rest (a.put dst (.pointer (some ⟨w.heap.size, 0, none⟩))) (w.alloc (.cells z T))) : wpList Try.prog ops Q (⟨dst, .alloc T, ty, pos, after, guard⟩ :: rest) a w := by
  refine BigFrame.wpList_want hw fun K hK => ?_
  have hz := RT.zero
  cases hi : Try.prog.info? T with
  | none => rw [hi] at hz; cases hz
  | some i =>
    rw [hi] at hz
    have hz' : i.zero = some (.agg z) := hz
    unfold Oper.wp execOp
    simp [Instr.alloc, zeroValue, typeInfo, hi, hz', newVar, newRow, Value.cells, go_sem]
    exact hK _ _ h
theorem ret_rowR (RT : RowTy T n z) {fn : Func} {p : Tmp} (hf : fn.results = #[.cell p T]) {R : Ending → World → Prop} {b : Nat} (hp : a.tmps.getD p undef = .pointer (some ⟨b, 0, none⟩)) (hd : a.defers = [])
    {c : Array Value} {t : TypeId} {f : Nat × Nat} (hb : blk w b = some (.cells c t f)) (hn : c.size = n) (h : R (.returned (.agg c)) w) : bodyPost Try.prog fn R .ret a w := by
  obtain ⟨d, hu, hr⟩ := RT.und
  exact bodyPost_ret (v := .agg c) (results_cell_row hf _ w b t c f d hp hb hu (by cases d <;> first | rfl | (simp [TypeDesc.isRow] at hr)) (by rw [RT.size, hn])) hd h
end
end Go.Proofs.Ytacglcpjbepfnaa
