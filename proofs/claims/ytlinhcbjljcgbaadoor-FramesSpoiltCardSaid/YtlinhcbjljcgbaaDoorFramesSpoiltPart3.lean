/- FramesSpoilt: part 3 of its proof: Row, Heap, HeapMore. -/
import Derived.Test.YtlinhcbjljcgbaaDoorFramesSpoiltPart2
import Derived.Laws.Rows
import Derived.Laws.IdiomCopy
import Derived.Deep.MidRow
import Derived.Lib.SmallJoins
/- Blocks known whole, and arrays by value: they are loaded, stored and made as one thing, with no look at their cells. -/
namespace Go.Proofs.YtlinhcbjljcgbaaDoor
open Go.RowKit

theorem heapAlloc (w : World) (o : Obj) : (w.alloc o).heap = w.heap.push o := rfl
def blk (w : World) (n : Nat) : Option Obj := w.heap[n]?
noncomputable def extBlk (w d : World) (n : Nat) : Option Obj := blk (World.ext w d) n
@[go_sem high] theorem blk_alloc (w : World) (o : Obj) (n : Nat) : blk (w.alloc o) n = if n = w.heap.size then some o else blk w n := by
  unfold blk
  split
  · rename_i h; subst h; exact heap_alloc_new w o
  · rename_i h
    show (w.heap.push o)[n]? = _
    rw [Array.getElem?_push, if_neg h]
@[go_sem high] theorem blk_ext (w d : World) (n : Nat) : blk (World.ext w d) n = if n < w.heap.size then blk w n else extBlk w d n := by
  split
  · rename_i h; exact ext_block w d h
  · rfl
@[go_sem high] theorem blk_drew (w : World) (n : Nat) : blk w.drew n = blk w n := rfl

/-- The block's contents are c now. -/
def setBlk (w : World) (n : Nat) (c : Array Value) : World := { w with heap := w.heap.modify n fun | .cells _ t f => .cells c t f | o => o }
noncomputable def extSetBlk (w d : World) (n : Nat) (c : Array Value) : World := setBlk (World.ext w d) n c
noncomputable def extSet (w d : World) (p : Addr) (v : Value) : World := (World.ext w d).setCell p v
@[go_sem high] theorem size_setBlk (w : World) (n : Nat) (c : Array Value) : (setBlk w n c).heap.size = w.heap.size := by simp [setBlk]
theorem setBlk_block (w : World) (n : Nat) (c : Array Value) (k : Nat) (h : k ≠ n) : (setBlk w n c).heap[k]? = w.heap[k]? := by
  simp only [setBlk, Array.getElem?_modify]; rw [if_neg (by omega)]
theorem setBlk_same (w : World) (n : Nat) (c c0 : Array Value) (t : TypeId) (f : Nat × Nat) (h : w.heap[n]? = some (.cells c0 t f)) : (setBlk w n c).heap[n]? = some (.cells c t f) := by
  simp only [setBlk, Array.getElem?_modify, h]; rfl
theorem World.eq_of {w w' : World} (h1 : w.heap = w'.heap) (h2 : w.tape = w'.tape) (h3 : w.drawn = w'.drawn) (h4 : w.os = w'.os) (h5 : w.output = w'.output) : w = w' := by
  cases w; cases w'; simp_all
@[go_sem high] theorem alloc_setBlk (w : World) (c0 : Array Value) (t : TypeId) (f : Nat × Nat) (n : Nat) (c : Array Value) :
    setBlk (w.alloc (.cells c0 t f)) n c = if n = w.heap.size then w.alloc (.cells c t f) else (setBlk w n c).alloc (.cells c0 t f) := by
  split
  · rename_i h
    subst h
    refine World.eq_of ?_ rfl rfl rfl rfl
    simp only [setBlk, heapAlloc]
    apply Array.ext_getElem?
    intro i
    rw [Array.getElem?_modify, Array.getElem?_push, Array.getElem?_push]
    by_cases e : i = w.heap.size
    · subst e; simp
    · rw [if_neg (by omega), if_neg e, if_neg e]
  · rename_i h
    refine World.eq_of ?_ rfl rfl rfl rfl
    simp only [setBlk, heapAlloc]
    apply Array.ext_getElem?
    intro i
    rw [Array.getElem?_modify, Array.getElem?_push, Array.getElem?_push, Array.getElem?_modify, Array.size_modify]
    by_cases e : i = w.heap.size
    · rw [if_pos e, if_pos e, if_neg (by omega)]
    · rw [if_neg e, if_neg e]
theorem ext_self {w d : World} (h : Below w.heap.size w d) : World.ext w d = d := by unfold World.ext; rw [if_pos h]
theorem below_setBlk {w d : World} {n : Nat} (c : Array Value) : Below (setBlk w n c).heap.size (setBlk w n c) (setBlk (World.ext w d) n c) := by
  have hb := ext_below w d
  refine ⟨hb.os, hb.tape, hb.output, by rw [size_setBlk, size_setBlk]; exact hb.size, fun k hk => ?_⟩
  rw [size_setBlk] at hk
  have hk' := hb.block k hk
  simp only [setBlk, Array.getElem?_modify, hk']
@[go_sem high] theorem ext_setBlk (w d : World) (n : Nat) (c : Array Value) : setBlk (World.ext w d) n c = if n < w.heap.size then World.ext (setBlk w n c) (extSetBlk w d n c) else extSetBlk w d n c := by
  split
  · exact (ext_self (below_setBlk c)).symm
  · rfl
theorem below_setCell {w d : World} {p : Addr} (v : Value) : Below (w.setCell p v).heap.size (w.setCell p v) ((World.ext w d).setCell p v) := by
  have hb := ext_below w d
  refine ⟨hb.os, hb.tape, hb.output, by simpa using hb.size, fun k hk => ?_⟩
  have hk' := hb.block k (by simpa using hk)
  simp only [World.setCell, Array.getElem?_modify, hk']
@[go_sem high] theorem ext_setCell (w d : World) (n i : Nat) (s : Option Nat) (v : Value) : (World.ext w d).setCell ⟨n, i, s⟩ v = if n < w.heap.size then World.ext (w.setCell ⟨n, i, s⟩ v) (extSet w d ⟨n, i, s⟩ v) else extSet w d ⟨n, i, s⟩ v := by
  split
  · exact (ext_self (below_setCell (p := ⟨n, i, s⟩) v)).symm
  · rfl
@[go_sem high] theorem alloc_setCell (w : World) (c : Array Value) (t : TypeId) (f : Nat × Nat) (n i : Nat) (v : Value) :
    (w.alloc (.cells c t f)).setCell ⟨n, i, none⟩ v = if n = w.heap.size then w.alloc (.cells (c.setIfInBounds i v) t f) else (w.setCell ⟨n, i, none⟩ v).alloc (.cells c t f) := by
  split
  · rename_i h
    subst h
    refine World.eq_of ?_ rfl rfl rfl rfl
    simp only [World.setCell, heapAlloc]
    apply Array.ext_getElem?
    intro j
    rw [Array.getElem?_modify, Array.getElem?_push, Array.getElem?_push]
    by_cases e : j = w.heap.size
    · subst e; simp
    · rw [if_neg (fun h => e h.symm), if_neg e, if_neg e]
  · rename_i h
    refine World.eq_of ?_ rfl rfl rfl rfl
    simp only [World.setCell, heapAlloc]
    apply Array.ext_getElem?
    intro j
    rw [Array.getElem?_modify, Array.getElem?_push, Array.getElem?_push, Array.getElem?_modify, Array.size_modify]
    by_cases e : j = w.heap.size
    · rw [if_pos e, if_pos e, if_neg (by omega)]
    · rw [if_neg e, if_neg e]

theorem blk_here {w : World} {o : Obj} {n : Nat} (h : n = w.heap.size) : blk (w.alloc o) n = some o := by rw [blk_alloc, if_pos h]
theorem blk_lt {w : World} {n : Nat} {o : Obj} (h : blk w n = some o) : n < w.heap.size := (Array.getElem?_eq_some_iff.1 h).1
theorem blk_past {w : World} {o o' : Obj} {n : Nat} (h : blk w n = some o') : blk (w.alloc o) n = some o' := by
  rw [blk_alloc, if_neg (by have := blk_lt h; omega), h]
theorem blk_extS {w d : World} {n : Nat} {o : Obj} (h : blk w n = some o) : blk (World.ext w d) n = some o := by
  rw [blk_ext, if_pos (blk_lt h), h]
theorem blk_drewS {w : World} {n : Nat} {o : Obj} (h : blk w n = some o) : blk w.drew n = some o := h
/-- Block n is there, and with c in it w is w'. -/
def SetTo (w : World) (n : Nat) (c : Array Value) (w' : World) : Prop := (∃ o, blk w n = some o) ∧ setBlk w n c = w'
theorem SetTo.here {w : World} {c0 : Array Value} {t : TypeId} {f : Nat × Nat} {n : Nat} {c : Array Value} (h : n = w.heap.size) : SetTo (w.alloc (.cells c0 t f)) n c (w.alloc (.cells c t f)) :=
  ⟨⟨_, blk_here h⟩, by rw [alloc_setBlk, if_pos h]⟩
theorem SetTo.past {w w' : World} {c0 : Array Value} {t : TypeId} {f : Nat × Nat} {n : Nat} {c : Array Value} (h : SetTo w n c w') : SetTo (w.alloc (.cells c0 t f)) n c (w'.alloc (.cells c0 t f)) := by
  obtain ⟨⟨o, ho⟩, h2⟩ := h
  exact ⟨⟨o, blk_past ho⟩, by rw [alloc_setBlk, if_neg (by have := blk_lt ho; omega), h2]⟩
theorem SetTo.ext {w w' d : World} {n : Nat} {c : Array Value} (h : SetTo w n c w') : SetTo (World.ext w d) n c (World.ext w' (extSetBlk w d n c)) := by
  obtain ⟨⟨o, ho⟩, h2⟩ := h
  exact ⟨⟨o, blk_extS ho⟩, by rw [ext_setBlk, if_pos (blk_lt ho), h2]⟩
theorem SetTo.drew {w w' : World} {n : Nat} {c : Array Value} (h : SetTo w n c w') : SetTo w.drew n c w'.drew := ⟨h.1, by rw [← h.2]; rfl⟩

/-- A type whose values are rows of n cells; z: its zero. -/
structure RowTy (T n : Nat) (z : Array Value) : Prop where
  und : ∃ d, Tryd.prog.underlying T = some d ∧ d.isRow = true
  size : (Tryd.prog.info? T).map (·.size) = some n
  zero : (Tryd.prog.info? T).bind (·.zero) = some (.agg z)
/-- n cells of one place each. -/
def Cells (n : Nat) (c : Array Value) : Prop := c.size = n ∧ c.all (·.oneCell') = true

section
variable {ops : Array Oper} {rest : List Oper} {o : Oper} {a : Act} {w : World} {Q : Exit → Act → World → Prop} {T n : Nat} {z : Array Value}
theorem wpl_loadR {dst : Option Tmp} {ty : TypeId} {pos : String} {after : Array Edge} {guard : Option (Nat × Bool)} {x : Operand} {b off : Nat} (RT : RowTy T n z) (hw : Region.wanted ⟨dst, .load T x, ty, pos, after, guard⟩ (yielded ops a.tmps) = true) (hx : a.eval x = .pointer (some ⟨b, off, none⟩))
    {c c1 : Array Value} {t : TypeId} {f : Nat × Nat} (hb : blk w b = some (.cells c t f)) (hn : off + n ≤ c.size) (he : c.extract off (off + n) = c1)
    (h : wpList Tryd.prog ops Q rest (a.put dst (.agg c1)) w) : wpList Tryd.prog ops Q (⟨dst, .load T x, ty, pos, after, guard⟩ :: rest) a w := by
  obtain ⟨d, hu, hd⟩ := RT.und
  subst he
  exact BigFrame.wpList_want hw fun K hK => wp_load_mid T x rfl b off hx (c.extract off (off + n)).toList d (World.rangeAt_of_block hb off n) hu hd (by rw [RT.size]; simp; omega) (hK _ _ (by rw [Array.toArray_toList]; exact h))
theorem run_loadR (RT : RowTy T n z) {w : World} {b off : Nat} {c : Array Value} {t : TypeId} {f : Nat × Nat} (hb : w.heap[b]? = some (.cells c t f)) (hn : off + n ≤ c.size) :
    (Instr.loadAt T (.pointer (some ⟨b, off, none⟩))).run Tryd.prog w = .ok (.agg (c.extract off (off + n))) w := by
  obtain ⟨d, hu, hd⟩ := RT.und
  have := run_loadAt_mid (P := Tryd.prog) w b off T (c.extract off (off + n)).toList d (World.rangeAt_of_block hb off n) hu hd (by rw [RT.size]; simp; omega)
  rw [Array.toArray_toList] at this
  exact this
theorem wpQ_loadR {dst : Option Tmp} {ty : TypeId} {pos : String} {after : Array Edge} {guard : Option (Nat × Bool)} {x : Operand} {b off : Nat} {W : World} {K : Act → Prop} (RT : RowTy T n z) (hw : Region.wanted ⟨dst, .load T x, ty, pos, after, guard⟩ (yielded ops a.tmps) = true) (hx : a.eval x = .pointer (some ⟨b, off, none⟩))
    {c c1 : Array Value} {t : TypeId} {f : Nat × Nat} (hb : blk W b = some (.cells c t f)) (hn : off + n ≤ c.size) (he : c.extract off (off + n) = c1)
    (h : wpQuiet Tryd.prog ops (fun w' => ∃ d, w' = World.ext W d) K rest (a.put dst (.agg c1))) : wpQuiet Tryd.prog ops (fun w' => ∃ d, w' = World.ext W d) K (⟨dst, .load T x, ty, pos, after, guard⟩ :: rest) a := by
  subst he
  refine BigFrame.wpQuiet_want hw fun K hK => ⟨_, ?_, hK _ h⟩
  rintro _ ⟨d, rfl⟩
  unfold Oper.quietAt execOp
  simp only [hx, Sem.run_bind, run_loadR RT (blk_extS (d := d) hb) hn]
  exact ⟨rfl, rfl⟩
/-- An operation that yields one value, in whatever world. -/
theorem wpl_pure (hw : Region.wanted o (yielded ops a.tmps) = true) (v : Value) (hv : ∀ w, (execOp a.eval o).run Tryd.prog w = .ok (.value v) w) (h : wpList Tryd.prog ops Q rest (a.put o.dst v) w) : wpList Tryd.prog ops Q (o :: rest) a w :=
  BigFrame.wpList_want hw fun K hK => by unfold Oper.wp; rw [hv]; exact hK _ _ h
theorem wpQ_pure {C : World → Prop} {K : Act → Prop} (hw : Region.wanted o (yielded ops a.tmps) = true) (v : Value) (hv : ∀ w, (execOp a.eval o).run Tryd.prog w = .ok (.value v) w) (h : wpQuiet Tryd.prog ops C K rest (a.put o.dst v)) : wpQuiet Tryd.prog ops C K (o :: rest) a :=
  BigFrame.wpQuiet_want hw fun K hK => ⟨v, fun w _ => by unfold Oper.quietAt; rw [hv]; exact ⟨rfl, rfl⟩, hK _ h⟩
/-- A type whose values lie in one cell. -/
structure CellTy (T : Nat) : Prop where
  und : ∃ d, Tryd.prog.underlying T = some d ∧ d.isRow = false
  size : (Tryd.prog.info? T).map (·.size) = some 1
theorem run_loadC (CT : CellTy T) {w : World} {b off : Nat} {c : Array Value} {t : TypeId} {f : Nat × Nat} {v : Value} (hb : w.heap[b]? = some (.cells c t f)) (hv : c[off]? = some v) :
    (Instr.loadAt T (.pointer (some ⟨b, off, none⟩))).run Tryd.prog w = .ok v w := by
  obtain ⟨d, hu, hd⟩ := CT.und
  have hagg : (isAgg T).run Tryd.prog w = .ok false w := by
    unfold isAgg
    rw [Sem.run_bind, run_underlying hu w]
    cases d <;> simp_all [TypeDesc.isRow]
  have hc : w.cell? ⟨b, off, none⟩ = some v := by rw [cell_of_row w b off c t f hb]; exact hv
  simp [Instr.loadAt, Instr.sureAddr, loadVar, Sem.run_bind, hagg, go_sem, hc]
theorem wpl_loadC {dst : Option Tmp} {ty : TypeId} {pos : String} {after : Array Edge} {guard : Option (Nat × Bool)} {x : Operand} {b off : Nat} (CT : CellTy T) (hw : Region.wanted ⟨dst, .load T x, ty, pos, after, guard⟩ (yielded ops a.tmps) = true) (hx : a.eval x = .pointer (some ⟨b, off, none⟩))
    {c : Array Value} {v : Value} {t : TypeId} {f : Nat × Nat} (hb : blk w b = some (.cells c t f)) (hv : c[off]? = some v) (h : wpList Tryd.prog ops Q rest (a.put dst v) w) : wpList Tryd.prog ops Q (⟨dst, .load T x, ty, pos, after, guard⟩ :: rest) a w :=
  BigFrame.wpList_want hw fun K hK => by
    unfold Oper.wp execOp
    simp only [hx, Sem.run_bind, run_loadC CT hb hv]
    exact hK _ _ h
/-- c0 with v written over its cells from off on. -/
def splice (c0 : Array Value) (off : Nat) (v : Array Value) : Array Value := (c0.toList.take off ++ v.toList ++ c0.toList.drop (off + v.size)).toArray
theorem splice_all {c0 v : Array Value} (h : v.size = c0.size) : splice c0 0 v = v := by
  unfold splice
  rw [List.take_zero, List.nil_append, List.drop_eq_nil_of_le (by simp; omega), List.append_nil]
theorem setCells_blk (b : Nat) : ∀ (vs : List Value) (k : Nat) (w : World) (c : Array Value) (t : TypeId) (f : Nat × Nat), w.heap[b]? = some (.cells c t f) → k + vs.length ≤ c.size →
    w.setCells b k vs = setBlk w b ((c.toList.take k ++ vs ++ c.toList.drop (k + vs.length)).toArray)
  | [], k, w, c, t, f, hb, hk => by
    simp only [World.setCells, List.append_nil, List.length_nil, Nat.add_zero, List.take_append_drop, Array.toArray_toList]
    refine World.eq_of ?_ rfl rfl rfl rfl
    apply Array.ext_getElem?
    intro j
    by_cases e : j = b
    · subst e; rw [hb, setBlk_same w j c c t f hb]
    · rw [setBlk_block _ _ _ _ e]
  | v :: vs, k, w, c, t, f, hb, hk => by
    rw [World.setCells, setCells_blk b vs (k + 1) (w.setCell ⟨b, k, none⟩ v) (c.setIfInBounds k v) t f (by
      have := Joins.block_setCell (i := k) hb v; exact this) (by simp at hk ⊢; omega)]
    have hl : k < c.toList.length := by simp at hk ⊢; omega
    have e : (List.take (k + 1) (c.setIfInBounds k v).toList ++ vs ++ List.drop (k + 1 + vs.length) (c.setIfInBounds k v).toList) = (List.take k c.toList ++ (v :: vs) ++ List.drop (k + (v :: vs).length) c.toList) := by
      rw [Array.toList_setIfInBounds, List.take_succ_eq_append_getElem (by simpa using hl), List.getElem_set_self, List.take_set, List.set_eq_of_length_le (by simp; omega), List.drop_set, if_pos (by omega)]
      simp only [List.length_cons, List.append_assoc, List.cons_append, List.nil_append]
      rw [show k + 1 + vs.length = k + (vs.length + 1) by omega]
    rw [e]
    refine World.eq_of ?_ rfl rfl rfl rfl
    apply Array.ext_getElem?
    intro j
    by_cases e : j = b
    · subst e; rw [setBlk_same _ j _ _ t f (Joins.block_setCell (i := k) hb v), setBlk_same _ j _ c t f hb]
    · rw [setBlk_block _ _ _ _ e, setBlk_block _ _ _ _ e, Below.heap_setCell _ _ _ _ e]
theorem wpl_storeR {dst : Option Tmp} {ty : TypeId} {pos : String} {after : Array Edge} {guard : Option (Nat × Bool)} {x y : Operand} {b off : Nat} {c : Array Value} (RT : RowTy T n z) (hw : Region.wanted ⟨dst, .store T x y, ty, pos, after, guard⟩ (yielded ops a.tmps) = true) (hx : a.eval x = .pointer (some ⟨b, off, none⟩)) (hy : a.eval y = .agg c) (hc : Cells n c)
    {c0 c1 : Array Value} {t : TypeId} {w' : World} (hb : blk w b = some (.cells c0 t (0, 0))) (hn : off + n ≤ c0.size) (hs : splice c0 off c = c1) (hp : SetTo w b c1 w')
    (h : wpList Tryd.prog ops Q rest (a.put dst undef) w') : wpList Tryd.prog ops Q (⟨dst, .store T x y, ty, pos, after, guard⟩ :: rest) a w := by
  obtain ⟨_, rfl⟩ := hp
  subst hs
  refine BigFrame.wpList_want hw fun K hK => wp_store_mid T x y rfl b off c hx hy (fun j hj => ⟨?_, frozen_of_row w b (off + j) c0 t hb⟩) (by rw [RT.size, hc.1]) hc.2 (hK _ _ ?_)
  · rw [cell_of_row w b (off + j) c0 t _ hb, Array.getElem?_eq_getElem (by have := hc.1; omega)]; rfl
  · rw [setCells_blk b c.toList off w c0 t _ hb (by have := hc.1; simp; omega)]
    unfold splice at h
    simpa using h
theorem wpl_storeC {dst : Option Tmp} {ty : TypeId} {pos : String} {after : Array Edge} {guard : Option (Nat × Bool)} {x y : Operand} {b off : Nat} {v : Value} (CT : CellTy T) (hw : Region.wanted ⟨dst, .store T x y, ty, pos, after, guard⟩ (yielded ops a.tmps) = true) (hx : a.eval x = .pointer (some ⟨b, off, none⟩)) (hy : a.eval y = v) (hc : v.cells = #[v] ∧ v.oneCell' = true)
    {c0 c1 : Array Value} {t : TypeId} {w' : World} (hb : blk w b = some (.cells c0 t (0, 0))) (hn : off < c0.size) (hs : c0.setIfInBounds off v = c1) (hp : SetTo w b c1 w')
    (h : wpList Tryd.prog ops Q rest (a.put dst undef) w') : wpList Tryd.prog ops Q (⟨dst, .store T x y, ty, pos, after, guard⟩ :: rest) a w := by
  obtain ⟨_, rfl⟩ := hp
  subst hs
  refine BigFrame.wpList_want hw fun K hK => ?_
  have hsz : (sizeOf T).run Tryd.prog w = .ok 1 w := by
    have := CT.size
    cases hi : Tryd.prog.info? T with
    | none => rw [hi] at this; cases this
    | some i => rw [hi] at this; simp at this; simp [sizeOf, typeInfo, hi, this, go_sem]
  have hcell : (w.cell? ⟨b, off, none⟩).isSome = true := by rw [cell_of_row w b off c0 t _ hb, Array.getElem?_eq_getElem hn]; rfl
  have hfr : w.frozen? ⟨b, off, none⟩ = false := frozen_of_row w b off c0 t hb
  have e : setBlk w b (c0.setIfInBounds off v) = w.setCell ⟨b, off, none⟩ v := by
    refine World.eq_of ?_ rfl rfl rfl rfl
    apply Array.ext_getElem?
    intro j
    by_cases e : j = b
    · subst e; rw [setBlk_same _ j _ c0 t _ hb, Joins.block_setCell (i := off) hb]
    · rw [setBlk_block _ _ _ _ e, Below.heap_setCell _ _ _ _ e]
  rw [e] at h
  obtain ⟨u, hu⟩ := Option.isSome_iff_exists.1 hcell
  unfold Oper.wp execOp
  simp only [hx, hy, Instr.storeAt, Instr.sureAddr, storeVar, Sem.run_bind, Sem.run_pure, Result.andThen_ok, hsz, hc.1]
  have hst : (store ⟨b, off, none⟩ v).run Tryd.prog w = .ok () (w.setCell ⟨b, off, none⟩ v) := by rw [run_store _ _ _ _ _ hc.2, hu]; simp [hfr]
  simp [storeCells, go_sem, hst]
  exact hK _ _ h
theorem wpl_storeB {dst : Option Tmp} {ty : TypeId} {pos : String} {after : Array Edge} {guard : Option (Nat × Bool)} {x y : Operand} {b off : Nat} {v : Bool} (CT : CellTy T) (hw : Region.wanted ⟨dst, .store T x y, ty, pos, after, guard⟩ (yielded ops a.tmps) = true) (hx : a.eval x = .pointer (some ⟨b, off, none⟩)) (hy : a.eval y = .bool v)
    {c0 c1 : Array Value} {t : TypeId} {w' : World} (hb : blk w b = some (.cells c0 t (0, 0))) (hn : off < c0.size) (hs : c0.setIfInBounds off (.bool v) = c1) (hp : SetTo w b c1 w')
    (h : wpList Tryd.prog ops Q rest (a.put dst undef) w') : wpList Tryd.prog ops Q (⟨dst, .store T x y, ty, pos, after, guard⟩ :: rest) a w := wpl_storeC CT hw hx hy ⟨rfl, rfl⟩ hb hn hs hp h
theorem wpl_allocR {dst : Option Tmp} {ty : TypeId} {pos : String} {after : Array Edge} {guard : Option (Nat × Bool)} (RT : RowTy T n z) (hw : Region.wanted ⟨dst, .alloc T, ty, pos, after, guard⟩ (yielded ops a.tmps) = true) (h : wpList Tryd.prog ops Q rest (a.put dst (.pointer (some ⟨w.heap.size, 0, none⟩))) (w.alloc (.cells z T))) : wpList Tryd.prog ops Q (⟨dst, .alloc T, ty, pos, after, guard⟩ :: rest) a w := by
  refine BigFrame.wpList_want hw fun K hK => ?_
  have hz := RT.zero
  cases hi : Tryd.prog.info? T with
  | none => rw [hi] at hz; cases hz
  | some i =>
    rw [hi] at hz
    have hz' : i.zero = some (.agg z) := hz
    unfold Oper.wp execOp
    simp [Instr.alloc, zeroValue, typeInfo, hi, hz', newVar, newRow, Value.cells, go_sem]
    exact hK _ _ h
theorem ret_rowR (RT : RowTy T n z) {fn : Func} {p : Tmp} (hf : fn.results = #[.cell p T]) {R : Ending → World → Prop} {b : Nat} (hp : a.tmps.getD p undef = .pointer (some ⟨b, 0, none⟩)) (hd : a.defers = [])
    {c : Array Value} {t : TypeId} {f : Nat × Nat} (hb : blk w b = some (.cells c t f)) (hn : c.size = n) (h : R (.returned (.agg c)) w) : bodyPost Tryd.prog fn R .ret a w := by
  obtain ⟨d, hu, hr⟩ := RT.und
  exact bodyPost_ret (v := .agg c) (results_cell_row hf _ w b t c f d hp hb hu (by cases d <;> first | rfl | (simp [TypeDesc.isRow] at hr)) (by rw [RT.size, hn])) hd h
end
end Go.Proofs.YtlinhcbjljcgbaaDoor

/- Memory as a list of things: 'Heap W l w': behind W nothing of W has changed, and the things of l lie in w, apart from each other, in blocks of their own. Worlds stay variables; each step hands on one such fact. -/
namespace Go.Proofs.YtlinhcbjljcgbaaDoor
open Go.RowKit

/-- A thing: the block where it lies (if any), and what is true of it there. -/
structure Thing where
  fp : Option Nat
  ok : World → Prop
  loc : ∀ w w' : World, (∀ k, fp = some k → w'.heap[k]? = w.heap[k]?) → ok w → ok w'
/-- A block known whole. -/
def Cel (p : Nat) (c : Array Value) (t : TypeId) : Thing := ⟨some p, fun w => blk w p = some (.cells c t (0, 0)), fun _ _ h ho => (h p rfl).trans ho⟩
/-- A row of a slice's value v: nil, or the head of a block. -/
def RowT (e size : Nat) (v : Value) (n : Nat) (xs : List Value) : Thing := ⟨v.ownBlock, fun w => w.ownsRow 0 e size v n xs, fun w w' h ho => by
  obtain ⟨h1, h2⟩ := ho
  refine ⟨h1, ?_⟩
  rcases h2 with h2 | ⟨g, cap, cur, rfl, hg, hh, r⟩
  · exact .inl h2
  · exact .inr ⟨g, cap, cur, rfl, hg, by rw [h g rfl]; exact hh, r⟩⟩
/-- A row that lies at the head of block g. -/
def Sl (g e size n c : Nat) (xs : List Value) : Thing := RowT e size (.slice (some ⟨g, 0, none⟩) n c) n xs

structure Heap (W : World) (l : List Thing) (w : World) : Prop where
  low : Below W.heap.size W w
  ok : ∀ x ∈ l, x.ok w
  fp : ∀ x ∈ l, ∀ k, x.fp = some k → W.heap.size ≤ k ∧ k < w.heap.size
  apart : l.Pairwise fun x y => ∀ k, x.fp = some k → y.fp ≠ some k
/-- l' is l with x' in the place of x. -/
inductive Repl : List Thing → Thing → Thing → List Thing → Prop
  | here {x x' : Thing} {l : List Thing} : Repl (x :: l) x x' (x' :: l)
  | there {x x' y : Thing} {l l' : List Thing} : Repl l x x' l' → Repl (y :: l) x x' (y :: l')
/-- r is l without x. -/
inductive Pull : List Thing → Thing → List Thing → Prop
  | here {x : Thing} {l : List Thing} : Pull (x :: l) x l
  | there {x y : Thing} {l l' : List Thing} : Pull l x l' → Pull (y :: l) x (y :: l')
theorem Pull.perm {l r : List Thing} {x : Thing} (h : Pull l x r) : l.Perm (x :: r) := by
  induction h with
  | here => exact .refl _
  | there _ ih => exact (ih.cons _).trans (.swap _ _ _)
theorem Repl.perm {l l' : List Thing} {x x' : Thing} (h : Repl l x x' l') : ∃ r, l.Perm (x :: r) ∧ l'.Perm (x' :: r) := by
  induction h with
  | here => exact ⟨_, .refl _, .refl _⟩
  | there h ih =>
    obtain ⟨r, h1, h2⟩ := ih
    exact ⟨_, (h1.cons _).trans (.swap _ _ _), (h2.cons _).trans (.swap _ _ _)⟩
theorem Repl.mem {l l' : List Thing} {x x' : Thing} (h : Repl l x x' l') : x ∈ l := by
  obtain ⟨r, h1, _⟩ := h.perm
  exact h1.mem_iff.2 (List.mem_cons_self ..)

section
variable {W w w' : World} {l l' r : List Thing} {x x' : Thing}
theorem Heap.start (W : World) : Heap W [] W := ⟨Below.refl _ _, (fun _ h => by cases h), (fun _ h => by cases h), .nil⟩
theorem Heap.perm (H : Heap W l w) (h : l.Perm l') : Heap W l' w :=
  ⟨H.low, fun x hx => H.ok x (h.mem_iff.2 hx), fun x hx => H.fp x (h.mem_iff.2 hx), (h.pairwise_iff (fun {x y} hxy k hy hx => hxy k hx hy)).1 H.apart⟩
theorem Heap.pull (H : Heap W l w) (h : Pull l x r) : Heap W (x :: r) w := H.perm h.perm
theorem Heap.tail (H : Heap W (x :: l) w) : Heap W l w := ⟨H.low, fun x hx => H.ok x (List.mem_cons_of_mem _ hx), fun x hx => H.fp x (List.mem_cons_of_mem _ hx), (List.pairwise_cons.1 H.apart).2⟩
theorem Heap.drop (H : Heap W l w) (h : Pull l x r) : Heap W r w := (H.pull h).tail
theorem Heap.nothing (H : Heap W l w) : Heap W [] w := ⟨H.low, (fun _ h => by cases h), (fun _ h => by cases h), .nil⟩
theorem Heap.top2 {y : Thing} {s : List Thing} (H : Heap W l w) (h1 : Pull l x r) (h2 : Pull r y s) : Heap W (x :: y :: s) w := H.perm (h1.perm.trans (h2.perm.cons _))
theorem Heap.top3 {y u : Thing} {s v : List Thing} (H : Heap W l w) (h1 : Pull l x r) (h2 : Pull r y s) (h3 : Pull s u v) : Heap W (x :: y :: u :: v) w := H.perm (h1.perm.trans ((h2.perm.trans (h3.perm.cons _)).cons _))
/-- The first thing turned into another one, of the same block or a new one. -/
theorem Heap.head (H : Heap W (x :: l) w) (hg : w.grownBy w' x.fp) (hok : x'.ok w') (hf : x'.fp = x.fp ∨ ∀ k, x'.fp = some k → w.heap.size ≤ k ∧ k < w'.heap.size) : Heap W (x' :: l) w' := by
  have hap := List.pairwise_cons.1 H.apart
  refine ⟨H.low.grown hg H.low.size (fun k hk => (H.fp x (List.mem_cons_self ..) k hk).1), ?_, ?_, List.pairwise_cons.2 ⟨?_, hap.2⟩⟩
  · intro y hy
    rcases List.mem_cons.1 hy with rfl | hy
    · exact hok
    · refine y.loc w w' (fun k hk => hg.block k (H.fp y (List.mem_cons_of_mem _ hy) k hk).2 (fun e => hap.1 y hy k e.symm hk)) (H.ok y (List.mem_cons_of_mem _ hy))
  · intro y hy k hk
    rcases List.mem_cons.1 hy with rfl | hy
    · rcases hf with hf | hf
      · have := H.fp x (List.mem_cons_self ..) k (hf ▸ hk); exact ⟨this.1, Nat.lt_of_lt_of_le this.2 hg.size⟩
      · exact ⟨Nat.le_trans H.low.size (hf k hk).1, (hf k hk).2⟩
    · have := H.fp y (List.mem_cons_of_mem _ hy) k hk; exact ⟨this.1, Nat.lt_of_lt_of_le this.2 hg.size⟩
  · intro y hy k hk hk'
    rcases hf with hf | hf
    · exact hap.1 y hy k (hf ▸ hk) hk'
    · have := H.fp y (List.mem_cons_of_mem _ hy) k hk'; have := hf k hk; omega
theorem Heap.upd (H : Heap W l w) (h : Repl l x x' l') (hg : w.grownBy w' x.fp) (hok : x'.ok w') (hf : x'.fp = x.fp ∨ ∀ k, x'.fp = some k → w.heap.size ≤ k ∧ k < w'.heap.size) : Heap W l' w' := by
  obtain ⟨r, h1, h2⟩ := h.perm
  exact ((H.perm h1).head hg hok hf).perm h2.symm
theorem Heap.add (H : Heap W l w) (hg : w.grownBy w' none) (hok : x.ok w') (hf : ∀ k, x.fp = some k → w.heap.size ≤ k ∧ k < w'.heap.size) : Heap W (x :: l) w' := by
  have H0 : Heap W ((⟨none, fun _ => True, fun _ _ _ h => h⟩ : Thing) :: l) w := ⟨H.low, fun y hy => by
      rcases List.mem_cons.1 hy with rfl | hy
      · trivial
      · exact H.ok y hy, fun y hy k hk => by
      rcases List.mem_cons.1 hy with rfl | hy
      · cases hk
      · exact H.fp y hy k hk, List.pairwise_cons.2 ⟨(fun _ _ _ h => by cases h), H.apart⟩⟩
  exact H0.head hg hok (.inr hf)
theorem Heap.grow (H : Heap W l w) (h : Ext w w') : Heap W l w' :=
  ⟨Below.trans H.low (Below.mono h H.low.size), fun x hx => x.loc w w' (fun k hk => h.block k (H.fp x hx k hk).2) (H.ok x hx), fun x hx k hk => ⟨(H.fp x hx k hk).1, Nat.lt_of_lt_of_le (H.fp x hx k hk).2 h.size⟩, H.apart⟩
theorem Heap.alloc (H : Heap W l w) (c : Array Value) (t : TypeId) : Heap W (Cel w.heap.size c t :: l) (w.alloc (.cells c t)) :=
  H.add ⟨rfl, rfl, rfl, by simp, fun k hk _ => Below.heap_alloc _ _ _ hk⟩ (blk_here rfl) (fun k hk => by cases hk; exact ⟨Nat.le_refl _, by simp⟩)
theorem Heap.drew (H : Heap W l w) : Heap W l w.drew := H.grow (Ext.refl w).drew
theorem Heap.blk (H : Heap W l w) {p : Nat} {c : Array Value} {t : TypeId} (m : Cel p c t ∈ l) : blk w p = some (.cells c t (0, 0)) := H.ok _ m
theorem Heap.rd (H : Heap W l w) {a : Option Addr} {xs : List Value} (R : Rd W a xs) : Rd w a xs := R.below H.low
theorem grown_setBlk {w : World} {p : Nat} {c : Array Value} : w.grownBy (setBlk w p c) (some p) :=
  ⟨rfl, rfl, rfl, by rw [size_setBlk]; exact Nat.le_refl _, fun k _ hk => setBlk_block w p c k (fun e => hk (by rw [e]))⟩
theorem Heap.set (H : Heap W l w) {p : Nat} {c c' : Array Value} {t : TypeId} (h : Repl l (Cel p c t) (Cel p c' t) l') : Heap W l' (setBlk w p c') :=
  H.upd h grown_setBlk (setBlk_same w p c' c t (0, 0) (H.blk h.mem)) (.inl rfl)
theorem RowT.sl {e size n : Nat} {v : Value} {xs : List Value} (h : (RowT e size v n xs).ok w) (hn : 0 < n) : ∃ g c, v = .slice (some ⟨g, 0, none⟩) n c ∧ n ≤ c ∧ c ≤ maxLen := by
  obtain ⟨_, ⟨_, rfl⟩ | ⟨g, c, cur, rfl, _, _, h1, h2, _⟩⟩ := h
  · omega
  · exact ⟨g, c, rfl, h1, h2⟩
theorem Heap.slRd (H : Heap W l w) {g e size n c : Nat} {xs : List Value} (m : Sl g e size n c xs ∈ l) : Rd w (some ⟨g, 0, none⟩) xs := by
  obtain ⟨h1, ⟨h, _⟩ | ⟨g', cap, cur, h, _, hh, _, _, _, ht⟩⟩ := H.ok _ m
  · cases h
  · cases h
    intro i hi
    refine ⟨g, 0, rfl, ?_⟩
    have hi' : i < (cur.toList.take (n * size)).length := by rw [ht]; exact hi
    have hlt : i < cur.size := by simp at hi'; omega
    subst ht
    simp only [World.cell?, Nat.zero_add, hh]
    simp
end

theorem wpQuiet_mono {P : Program} {ops : Array Oper} {C : World → Prop} {K K' : Act → Prop} (hk : ∀ a, K a → K' a) : ∀ (l : List Oper) (a : Act), wpQuiet P ops C K l a → wpQuiet P ops C K' l a
  | [], _, h => hk _ h
  | o :: l, a, h => by
    unfold wpQuiet at *
    split
    · rename_i hw; rw [if_pos hw] at h; exact Oper.quiet_mono (fun a' => wpQuiet_mono hk l a') h
    · rename_i hw; rw [if_neg hw] at h; exact wpQuiet_mono hk l _ h
section
variable {ops : Array Oper} {rest : List Oper} {o : Oper} {a : Act} {w W : World} {l : List Thing} {Q : Exit → Act → World → Prop} {T n : Nat} {z : Array Value}
theorem wpl_loadCH {dst : Option Tmp} {ty : TypeId} {pos : String} {after : Array Edge} {guard : Option (Nat × Bool)} {x : Operand} {b off : Nat} (CT : CellTy T) (hw : Region.wanted ⟨dst, .load T x, ty, pos, after, guard⟩ (yielded ops a.tmps) = true) (hx : a.eval x = .pointer (some ⟨b, off, none⟩))
    (H : Heap W l w) {c : Array Value} {v : Value} {t : TypeId} (m : Cel b c t ∈ l) (hv : c[off]? = some v) (h : wpList Tryd.prog ops Q rest (a.put dst v) w) : wpList Tryd.prog ops Q (⟨dst, .load T x, ty, pos, after, guard⟩ :: rest) a w :=
  wpl_loadC CT hw hx (H.blk m) hv h
theorem wpl_loadRH {dst : Option Tmp} {ty : TypeId} {pos : String} {after : Array Edge} {guard : Option (Nat × Bool)} {x : Operand} {b off : Nat} (RT : RowTy T n z) (hw : Region.wanted ⟨dst, .load T x, ty, pos, after, guard⟩ (yielded ops a.tmps) = true) (hx : a.eval x = .pointer (some ⟨b, off, none⟩))
    (H : Heap W l w) {c c1 : Array Value} {t : TypeId} (m : Cel b c t ∈ l) (hn : off + n ≤ c.size) (he : c.extract off (off + n) = c1) (h : wpList Tryd.prog ops Q rest (a.put dst (.agg c1)) w) : wpList Tryd.prog ops Q (⟨dst, .load T x, ty, pos, after, guard⟩ :: rest) a w :=
  wpl_loadR RT hw hx (H.blk m) hn he h
theorem wpl_storeCH {dst : Option Tmp} {ty : TypeId} {pos : String} {after : Array Edge} {guard : Option (Nat × Bool)} {x y : Operand} {b off : Nat} {v : Value} (CT : CellTy T) (hw : Region.wanted ⟨dst, .store T x y, ty, pos, after, guard⟩ (yielded ops a.tmps) = true) (hx : a.eval x = .pointer (some ⟨b, off, none⟩)) (hy : a.eval y = v) (hc : v.cells = #[v] ∧ v.oneCell' = true)
    {c c1 : Array Value} {t : TypeId} {l' : List Thing} (H : Heap W l w) (m : Cel b c t ∈ l) (hn : off < c.size) (hs : c.setIfInBounds off v = c1) (r : Repl l (Cel b c t) (Cel b c1 t) l')
    (h : ∀ w', Heap W l' w' → wpList Tryd.prog ops Q rest (a.put dst undef) w') : wpList Tryd.prog ops Q (⟨dst, .store T x y, ty, pos, after, guard⟩ :: rest) a w :=
  wpl_storeC CT hw hx hy hc (H.blk m) hn hs ⟨⟨_, H.blk m⟩, rfl⟩ (h _ (H.set r))
theorem wpl_storeIH {dst : Option Tmp} {ty : TypeId} {pos : String} {after : Array Edge} {guard : Option (Nat × Bool)} {x y : Operand} {b off : Nat} {k0 : IntKind} {n0 : Int} (CT : CellTy T) (hw : Region.wanted ⟨dst, .store T x y, ty, pos, after, guard⟩ (yielded ops a.tmps) = true) (hx : a.eval x = .pointer (some ⟨b, off, none⟩)) (hy : a.eval y = .int k0 n0)
    {c c1 : Array Value} {t : TypeId} {l' : List Thing} (H : Heap W l w) (m : Cel b c t ∈ l) (hn : off < c.size) (hs : c.setIfInBounds off (.int k0 n0) = c1) (r : Repl l (Cel b c t) (Cel b c1 t) l')
    (h : ∀ w', Heap W l' w' → wpList Tryd.prog ops Q rest (a.put dst undef) w') : wpList Tryd.prog ops Q (⟨dst, .store T x y, ty, pos, after, guard⟩ :: rest) a w :=
  wpl_storeCH CT hw hx hy ⟨rfl, rfl⟩ H m hn hs r h
theorem wpl_storeBH {dst : Option Tmp} {ty : TypeId} {pos : String} {after : Array Edge} {guard : Option (Nat × Bool)} {x y : Operand} {b off : Nat} {b0 : Bool} (CT : CellTy T) (hw : Region.wanted ⟨dst, .store T x y, ty, pos, after, guard⟩ (yielded ops a.tmps) = true) (hx : a.eval x = .pointer (some ⟨b, off, none⟩)) (hy : a.eval y = .bool b0)
    {c c1 : Array Value} {t : TypeId} {l' : List Thing} (H : Heap W l w) (m : Cel b c t ∈ l) (hn : off < c.size) (hs : c.setIfInBounds off (.bool b0) = c1) (r : Repl l (Cel b c t) (Cel b c1 t) l')
    (h : ∀ w', Heap W l' w' → wpList Tryd.prog ops Q rest (a.put dst undef) w') : wpList Tryd.prog ops Q (⟨dst, .store T x y, ty, pos, after, guard⟩ :: rest) a w :=
  wpl_storeCH CT hw hx hy ⟨rfl, rfl⟩ H m hn hs r h
theorem wpl_storeSH {dst : Option Tmp} {ty : TypeId} {pos : String} {after : Array Edge} {guard : Option (Nat × Bool)} {x y : Operand} {b off : Nat} {a0 : Option Addr} {n0 c0 : Nat} (CT : CellTy T) (hw : Region.wanted ⟨dst, .store T x y, ty, pos, after, guard⟩ (yielded ops a.tmps) = true) (hx : a.eval x = .pointer (some ⟨b, off, none⟩)) (hy : a.eval y = .slice a0 n0 c0)
    {c c1 : Array Value} {t : TypeId} {l' : List Thing} (H : Heap W l w) (m : Cel b c t ∈ l) (hn : off < c.size) (hs : c.setIfInBounds off (.slice a0 n0 c0) = c1) (r : Repl l (Cel b c t) (Cel b c1 t) l')
    (h : ∀ w', Heap W l' w' → wpList Tryd.prog ops Q rest (a.put dst undef) w') : wpList Tryd.prog ops Q (⟨dst, .store T x y, ty, pos, after, guard⟩ :: rest) a w :=
  wpl_storeCH CT hw hx hy ⟨rfl, rfl⟩ H m hn hs r h
theorem wpl_storePH {dst : Option Tmp} {ty : TypeId} {pos : String} {after : Array Edge} {guard : Option (Nat × Bool)} {x y : Operand} {b off : Nat} {a0 : Option Addr} (CT : CellTy T) (hw : Region.wanted ⟨dst, .store T x y, ty, pos, after, guard⟩ (yielded ops a.tmps) = true) (hx : a.eval x = .pointer (some ⟨b, off, none⟩)) (hy : a.eval y = .pointer a0)
    {c c1 : Array Value} {t : TypeId} {l' : List Thing} (H : Heap W l w) (m : Cel b c t ∈ l) (hn : off < c.size) (hs : c.setIfInBounds off (.pointer a0) = c1) (r : Repl l (Cel b c t) (Cel b c1 t) l')
    (h : ∀ w', Heap W l' w' → wpList Tryd.prog ops Q rest (a.put dst undef) w') : wpList Tryd.prog ops Q (⟨dst, .store T x y, ty, pos, after, guard⟩ :: rest) a w :=
  wpl_storeCH CT hw hx hy ⟨rfl, rfl⟩ H m hn hs r h
theorem wpl_storeRH {dst : Option Tmp} {ty : TypeId} {pos : String} {after : Array Edge} {guard : Option (Nat × Bool)} {x y : Operand} {b off : Nat} {c2 : Array Value} (RT : RowTy T n z) (hw : Region.wanted ⟨dst, .store T x y, ty, pos, after, guard⟩ (yielded ops a.tmps) = true) (hx : a.eval x = .pointer (some ⟨b, off, none⟩)) (hy : a.eval y = .agg c2) (hc : Cells n c2)
    {c c1 : Array Value} {t : TypeId} {l' : List Thing} (H : Heap W l w) (m : Cel b c t ∈ l) (hn : off + n ≤ c.size) (hs : splice c off c2 = c1) (r : Repl l (Cel b c t) (Cel b c1 t) l')
    (h : ∀ w', Heap W l' w' → wpList Tryd.prog ops Q rest (a.put dst undef) w') : wpList Tryd.prog ops Q (⟨dst, .store T x y, ty, pos, after, guard⟩ :: rest) a w :=
  wpl_storeR RT hw hx hy hc (H.blk m) hn hs ⟨⟨_, H.blk m⟩, rfl⟩ (h _ (H.set r))
theorem wpl_allocRH {dst : Option Tmp} {ty : TypeId} {pos : String} {after : Array Edge} {guard : Option (Nat × Bool)} (RT : RowTy T n z) (hw : Region.wanted ⟨dst, .alloc T, ty, pos, after, guard⟩ (yielded ops a.tmps) = true)
    (H : Heap W l w) (h : ∀ p w', Heap W (Cel p z T :: l) w' → wpList Tryd.prog ops Q rest (a.put dst (.pointer (some ⟨p, 0, none⟩))) w') : wpList Tryd.prog ops Q (⟨dst, .alloc T, ty, pos, after, guard⟩ :: rest) a w :=
  wpl_allocR RT hw (h _ _ (H.alloc _ _))
theorem wpl_allocCH {dst : Option Tmp} {ty : TypeId} {pos : String} {after : Array Edge} {guard : Option (Nat × Bool)} {zv : Value} (hz : (Tryd.prog.info? T).bind (·.zero) = some zv ∧ zv.cells = #[zv]) (hw : Region.wanted ⟨dst, .alloc T, ty, pos, after, guard⟩ (yielded ops a.tmps) = true)
    (H : Heap W l w) (h : ∀ p w', Heap W (Cel p #[zv] T :: l) w' → wpList Tryd.prog ops Q rest (a.put dst (.pointer (some ⟨p, 0, none⟩))) w') : wpList Tryd.prog ops Q (⟨dst, .alloc T, ty, pos, after, guard⟩ :: rest) a w := by
  obtain ⟨hz, hz1⟩ := hz
  refine BigFrame.wpList_want hw fun K hK => ?_
  cases hi : Tryd.prog.info? T with
  | none => rw [hi] at hz; cases hz
  | some i =>
    rw [hi] at hz
    have hz' : i.zero = some zv := hz
    unfold Oper.wp execOp
    have r2 : (zeroValue T).run Tryd.prog w = .ok zv w := by simp [zeroValue, typeInfo, hi, hz', go_sem]
    simp only [Instr.alloc, Sem.run_bind, r2, Result.andThen_ok, newVar, newRow, hz1]
    exact hK _ _ (h _ _ (H.alloc _ _))
theorem wpl_boxRH {dst : Option Tmp} {ty : TypeId} {pos : String} {after : Array Edge} {guard : Option (Nat × Bool)} {x : Operand} {c : Array Value} (hw : Region.wanted ⟨dst, .box T x, ty, pos, after, guard⟩ (yielded ops a.tmps) = true) (hx : a.eval x = .agg c)
    (H : Heap W l w) (h : ∀ p w', Heap W (Cel p c T :: l) w' → wpList Tryd.prog ops Q rest (a.put dst (.pointer (some ⟨p, 0, none⟩))) w') : wpList Tryd.prog ops Q (⟨dst, .box T x, ty, pos, after, guard⟩ :: rest) a w := by
  refine BigFrame.wpList_want hw fun K hK => ?_
  unfold Oper.wp execOp
  simp only [hx, Instr.box, newVar, newRow, Value.cells]
  exact hK _ _ (h _ _ (H.alloc _ _))
theorem wpl_boxCH {dst : Option Tmp} {ty : TypeId} {pos : String} {after : Array Edge} {guard : Option (Nat × Bool)} {x : Operand} {v : Value} (hw : Region.wanted ⟨dst, .box T x, ty, pos, after, guard⟩ (yielded ops a.tmps) = true) (hx : a.eval x = v) (hv : v.cells = #[v])
    (H : Heap W l w) (h : ∀ p w', Heap W (Cel p #[v] T :: l) w' → wpList Tryd.prog ops Q rest (a.put dst (.pointer (some ⟨p, 0, none⟩))) w') : wpList Tryd.prog ops Q (⟨dst, .box T x, ty, pos, after, guard⟩ :: rest) a w := by
  refine BigFrame.wpList_want hw fun K hK => ?_
  unfold Oper.wp execOp
  simp only [hx, Instr.box, newVar, newRow, hv]
  exact hK _ _ (h _ _ (H.alloc _ _))
theorem wpl_boxPH {dst : Option Tmp} {ty : TypeId} {pos : String} {after : Array Edge} {guard : Option (Nat × Bool)} {x : Operand} {q : Option Addr} (hw : Region.wanted ⟨dst, .box T x, ty, pos, after, guard⟩ (yielded ops a.tmps) = true) (hx : a.eval x = .pointer q)
    (H : Heap W l w) (h : ∀ p w', Heap W (Cel p #[.pointer q] T :: l) w' → wpList Tryd.prog ops Q rest (a.put dst (.pointer (some ⟨p, 0, none⟩))) w') : wpList Tryd.prog ops Q (⟨dst, .box T x, ty, pos, after, guard⟩ :: rest) a w :=
  wpl_boxCH hw hx rfl H h
/-- A callee that only makes memory. -/
theorem Ans.callH {f : FuncId} {args : Array Value} {v : Value} {R : Ending → World → Prop} (h : Ans f args v) (H : Heap W l w) (k : ∀ w', Heap W l w' → R (.returned v) w') : Calls Tryd.prog f args w R :=
  (h w).mono fun _ _ ⟨he, hb⟩ => by rw [he]; exact k _ (H.grow hb)
/-- In whatever world where these things lie so, it answers v, and they lie so then. -/
def AnsH (W : World) (l : List Thing) (f : FuncId) (args : Array Value) (v : Value) : Prop := ∀ w, Heap W l w → Calls Tryd.prog f args w fun e w' => e = .returned v ∧ Heap W l w'
theorem AnsH.call {f : FuncId} {args : Array Value} {v : Value} {R : Ending → World → Prop} (h : AnsH W l f args v) (H : Heap W l w) (k : ∀ w', Heap W l w' → R (.returned v) w') : Calls Tryd.prog f args w R :=
  (h w H).mono fun _ _ ⟨he, hb⟩ => by rw [he]; exact k _ hb
theorem Ans.toH {f : FuncId} {args : Array Value} {v : Value} (h : Ans f args v) : AnsH W l f args v := fun w H => (h w).mono fun _ _ ⟨he, hb⟩ => ⟨he, H.grow hb⟩
open Classical in
/-- Whatever world in which the things lie so. -/
noncomputable def Heap.any {W w : World} {l : List Thing} (_ : Heap W l w) (d : World) : World := if Heap W l d then d else w
theorem Heap.any_heap (H : Heap W l w) (d : World) : Heap W l (H.any d) := by
  unfold Heap.any
  split
  · assumption
  · exact H
theorem Heap.any_of (H : Heap W l w) {w' : World} (h : Heap W l w') : ∃ d, w' = H.any d := ⟨w', by unfold Heap.any; rw [if_pos h]⟩
theorem AnsH.quiet {f : FuncId} {args : Array Value} {v : Value} {H : Heap W l w} {d : World} (h : AnsH W l f args v) : Calls Tryd.prog f args (H.any d) fun e w'' => e = .returned v ∧ ∃ m, w'' = H.any m :=
  (h _ (H.any_heap d)).mono fun _ _ ⟨he, hb⟩ => ⟨he, H.any_of hb⟩
theorem Ans.quietH {f : FuncId} {args : Array Value} {v : Value} {H : Heap W l w} {d : World} (h : Ans f args v) : Calls Tryd.prog f args (H.any d) fun e w'' => e = .returned v ∧ ∃ m, w'' = H.any m := AnsH.quiet h.toH
/-- A region that draws its order and only reads, or calls what leaves the things so. -/
theorem wp_region_H {id : Nat} {Q : Exit → Act → World → Prop} {a : Act} {lo : List Oper} (H : Heap W l w) (hm : Tryd.prog.follows .mixedOrders = true) (hB : Region.lexB .any lo.toArray = true)
    (h : wpQuiet Tryd.prog lo.toArray (fun w' => ∃ d, w' = H.any d) (fun a' => ∀ w', Heap W l w' → Q .normal a' w') lo a) : (Code.region id lo.toArray true).wp Tryd.prog Q a w := by
  refine wp_region_quiet (C := fun w' => ∃ d, w' = H.any d) hm hB (H.any_of H.drew) (wpQuiet_mono (fun _ h w' hw' => by obtain ⟨d, rfl⟩ := hw'; exact h _ (H.any_heap d)) _ _ (by simpa using h))
theorem wp_region_H_tail {id : Nat} {Q : Exit → Act → World → Prop} {a : Act} {lo : List Oper} (n : Nat) (H : Heap W l w) (hm : Tryd.prog.follows .mixedOrders = true) (hB : Region.lexTailB .any lo.toArray n = true)
    (h : wpQuiet Tryd.prog lo.toArray (fun w' => ∃ d, w' = H.any d) (fun a' => ∀ w', Heap W l w' → wpList Tryd.prog lo.toArray Q (lo.drop n) a' w') (lo.take n) a) : (Code.region id lo.toArray true).wp Tryd.prog Q a w := by
  refine wp_region_tail (C := fun w' => ∃ d, w' = H.any d) n hm hB (H.any_of H.drew) (wpQuiet_mono (fun _ h w' hw' => by obtain ⟨d, rfl⟩ := hw'; exact h _ (H.any_heap d)) _ _ (by simpa using h))
theorem wpQ_loadCH {dst : Option Tmp} {ty : TypeId} {pos : String} {after : Array Edge} {guard : Option (Nat × Bool)} {x : Operand} {b off : Nat} {K : Act → Prop} {H : Heap W l w} (CT : CellTy T) (hw : Region.wanted ⟨dst, .load T x, ty, pos, after, guard⟩ (yielded ops a.tmps) = true) (hx : a.eval x = .pointer (some ⟨b, off, none⟩))
    {c : Array Value} {v : Value} {t : TypeId} (m : Cel b c t ∈ l) (hv : c[off]? = some v)
    (h : wpQuiet Tryd.prog ops (fun w' => ∃ d, w' = H.any d) K rest (a.put dst v)) : wpQuiet Tryd.prog ops (fun w' => ∃ d, w' = H.any d) K (⟨dst, .load T x, ty, pos, after, guard⟩ :: rest) a := by
  refine BigFrame.wpQuiet_want hw fun K hK => ⟨_, ?_, hK _ h⟩
  rintro _ ⟨d, rfl⟩
  unfold Oper.quietAt execOp
  simp only [hx, Sem.run_bind, run_loadC CT ((H.any_heap d).blk m) hv]
  exact ⟨rfl, rfl⟩
theorem wpQ_loadRH {dst : Option Tmp} {ty : TypeId} {pos : String} {after : Array Edge} {guard : Option (Nat × Bool)} {x : Operand} {b off : Nat} {K : Act → Prop} {H : Heap W l w} (RT : RowTy T n z) (hw : Region.wanted ⟨dst, .load T x, ty, pos, after, guard⟩ (yielded ops a.tmps) = true) (hx : a.eval x = .pointer (some ⟨b, off, none⟩))
    {c c1 : Array Value} {t : TypeId} (m : Cel b c t ∈ l) (hn : off + n ≤ c.size) (he : c.extract off (off + n) = c1)
    (h : wpQuiet Tryd.prog ops (fun w' => ∃ d, w' = H.any d) K rest (a.put dst (.agg c1))) : wpQuiet Tryd.prog ops (fun w' => ∃ d, w' = H.any d) K (⟨dst, .load T x, ty, pos, after, guard⟩ :: rest) a := by
  subst he
  refine BigFrame.wpQuiet_want hw fun K hK => ⟨_, ?_, hK _ h⟩
  rintro _ ⟨d, rfl⟩
  unfold Oper.quietAt execOp
  simp only [hx, Sem.run_bind, run_loadR RT ((H.any_heap d).blk m) hn]
  exact ⟨rfl, rfl⟩
theorem run_buildSlice1 {t e : Nat} {zs : Array Value} (hu : Tryd.prog.underlying t = some (.slice e)) (RT : (Tryd.prog.info? e).map (fun i => (i.size, i.zero.map Value.cells)) = some (zs.size, some zs)) (h0 : 0 < zs.size) (h1 : zs.size ≤ 65536) (v : Value) (hv : v.cells.size = zs.size) (w : World) :
    (Instr.buildSlice t 1 #[(0, v)]).run Tryd.prog w = .ok (.slice (some ⟨w.heap.size, 0, none⟩) 1 1) (w.alloc (.cells v.cells e)) := by
  obtain ⟨i, hi, he⟩ := Option.map_eq_some_iff.1 RT
  simp only [Prod.mk.injEq] at he
  obtain ⟨hs, hz⟩ := he
  obtain ⟨zv, hzv, rfl⟩ := Option.map_eq_some_iff.1 hz
  have hne : zv.cells.size ≠ 0 := by omega
  have hbig : ¬ (2 ^ 24 < zv.cells.size) := by omega
  have key : ∀ (xs : List Value) (k : Nat) (pre post : List Value), pre.length = k → xs.length ≤ post.length → (List.foldl (fun (cs : Array Value) (x : Value × Nat) => cs.setIfInBounds x.2 x.1) (pre ++ post).toArray (xs.zipIdx k)) = (pre ++ xs ++ post.drop xs.length).toArray := by
    intro xs
    induction xs with
    | nil => intro k pre post _ _; simp
    | cons x xs ih =>
      intro k pre post hk hl
      rcases post with _ | ⟨y, post⟩
      · simp at hl
      · subst hk
        simp only [List.zipIdx_cons, List.foldl_cons, List.setIfInBounds_toArray]
        have := ih (pre.length + 1) (pre ++ [x]) post (by simp) (by simpa using hl)
        rw [show (pre ++ y :: post).set pre.length x = (pre ++ [x]) ++ post by simp [List.set_append], this]
        simp
  have hk := key v.cells.toList 0 [] (List.map (fun j => zv.cells[j % zv.cells.size]!) (List.range zv.cells.size)) rfl (by simp [hv])
  simp only [List.nil_append, List.length_map, Array.length_toList] at hk
  have hk2 : Array.foldl (fun (cs : Array Value) (x : Value × Nat) => cs.setIfInBounds x.2 x.1) (Array.map (fun j => zv.cells[j % zv.cells.size]!) (Array.range zv.cells.size)) v.cells.zipIdx = v.cells := by
    rw [← Array.foldl_toList]
    simp only [Array.toList_zipIdx]
    rw [show Array.map (fun j => zv.cells[j % zv.cells.size]!) (Array.range zv.cells.size) = (List.map (fun j => zv.cells[j % zv.cells.size]!) (List.range zv.cells.size)).toArray by
      apply Array.ext'; simp]
    rw [hk]
    rw [List.drop_eq_nil_of_le (by simp [hv])]
    simp
  have hsz : (Array.map (fun j => zv.cells[j % zv.cells.size]!) (Array.range zv.cells.size)).size = zv.cells.size := by simp
  have r1 : (sizeOf e).run Tryd.prog w = .ok zv.cells.size w := by simp [sizeOf, typeInfo, hi, hs, go_sem]
  have r2 : (zeroValue e).run Tryd.prog w = .ok zv w := by simp [zeroValue, typeInfo, hi, hzv, go_sem]
  have hf : Instr.fill (fun i => some (i * zv.cells.size, zv.cells.size)) (Array.map (fun x => zv.cells[x % zv.cells.size]!) (Array.range zv.cells.size)) [(0, v)] = some v.cells := by
    unfold Instr.fill
    simp only [Nat.zero_mul, Nat.zero_add, hsz, hv]
    rw [if_neg (by simp)]
    unfold Instr.fill
    exact congrArg some hk2
  unfold Instr.buildSlice
  rw [Sem.run_bind, run_underlying hu]
  simp only [Result.andThen_ok]
  rw [Sem.run_bind, r1]
  simp only [Result.andThen_ok, Nat.one_mul]
  rw [if_neg hbig, if_neg hne]
  simp only [Sem.run_bind, r2, Result.andThen_ok, Sem.run_pure]
  rw [hf]
  simp [newRow, go_sem]
theorem wpl_bsH {dst : Option Tmp} {ty : TypeId} {pos : String} {after : Array Edge} {guard : Option (Nat × Bool)} {x : Operand} {v : Value} {t e : Nat} {c zs : Array Value} (hw : Region.wanted ⟨dst, .buildSlice t 1 #[(0, x)], ty, pos, after, guard⟩ (yielded ops a.tmps) = true) (hx : a.eval x = v) (hc : v.cells = c)
    (hT : Tryd.prog.underlying t = some (.slice e) ∧ (Tryd.prog.info? e).map (fun i => (i.size, i.zero.map Value.cells)) = some (zs.size, some zs) ∧ 0 < zs.size ∧ zs.size ≤ 65536) (hv : c.size = zs.size)
    (H : Heap W l w) (h : ∀ p w', Heap W (Cel p c e :: l) w' → wpList Tryd.prog ops Q rest (a.put dst (.slice (some ⟨p, 0, none⟩) 1 1)) w') : wpList Tryd.prog ops Q (⟨dst, .buildSlice t 1 #[(0, x)], ty, pos, after, guard⟩ :: rest) a w := by
  subst hc
  refine BigFrame.wpList_want hw fun K hK => ?_
  unfold Oper.wp execOp
  simp only [List.map_toArray, List.map_cons, List.map_nil, hx, Sem.run_bind, run_buildSlice1 hT.1 hT.2.1 hT.2.2.1 hT.2.2.2 v hv, Result.andThen_ok, Sem.run_pure]
  exact hK _ _ (h _ _ (H.alloc _ _))
theorem wpl_bsRH {dst : Option Tmp} {ty : TypeId} {pos : String} {after : Array Edge} {guard : Option (Nat × Bool)} {x : Operand} {t e : Nat} {c zs : Array Value} (hw : Region.wanted ⟨dst, .buildSlice t 1 #[(0, x)], ty, pos, after, guard⟩ (yielded ops a.tmps) = true) (hx : a.eval x = .agg c)
    (hT : Tryd.prog.underlying t = some (.slice e) ∧ (Tryd.prog.info? e).map (fun i => (i.size, i.zero.map Value.cells)) = some (zs.size, some zs) ∧ 0 < zs.size ∧ zs.size ≤ 65536) (hv : c.size = zs.size)
    (H : Heap W l w) (h : ∀ p w', Heap W (Cel p c e :: l) w' → wpList Tryd.prog ops Q rest (a.put dst (.slice (some ⟨p, 0, none⟩) 1 1)) w') : wpList Tryd.prog ops Q (⟨dst, .buildSlice t 1 #[(0, x)], ty, pos, after, guard⟩ :: rest) a w :=
  wpl_bsH hw hx rfl hT hv H h
theorem Heap.loadVar (RT : RowTy T n z) (H : Heap W l w) {b : Nat} {c : Array Value} {t : TypeId} (m : Cel b c t ∈ l) (hn : c.size = n) : (loadVar T ⟨b, 0, none⟩).run Tryd.prog w = .ok (.agg c) w := by
  obtain ⟨d, hu, hr⟩ := RT.und
  exact run_loadVar_row w b t T c (0, 0) d (H.blk m) hu (by cases d <;> first | rfl | (simp [TypeDesc.isRow] at hr)) (by rw [RT.size, hn])
theorem ret_row1H (RT : RowTy T n z) {fn : Func} {p : Tmp} (hf : fn.results = #[.cell p T]) {R : Ending → World → Prop} {b : Nat} (hp : a.tmps.getD p undef = .pointer (some ⟨b, 0, none⟩)) (hd : a.defers = [])
    (H : Heap W l w) {c : Array Value} {t : TypeId} (m : Cel b c t ∈ l) (hn : c.size = n) (h : R (.returned (.agg c)) w) : bodyPost Tryd.prog fn R .ret a w :=
  ret_rowR RT hf hp hd (H.blk m) hn h
theorem results_row3H (RT : RowTy T n z) {fn : Func} {p x y : Tmp} (hf : fn.results = #[.cell p T, .tmp x, .tmp y]) {tmps : Array Value} {b : Nat} (hp : tmps.getD p undef = .pointer (some ⟨b, 0, none⟩))
    (H : Heap W l w) {c : Array Value} {t : TypeId} (m : Cel b c t ∈ l) (hn : c.size = n) {vx vy : Value} (hx : tmps.getD x undef = vx) (hy : tmps.getD y undef = vy) : (results fn tmps).run Tryd.prog w = .ok (.tuple #[.agg c, vx, vy]) w := by
  have hp' : tmps[p]?.getD undef = .pointer (some ⟨b, 0, none⟩) := by simpa using hp
  have hx' : tmps[x]?.getD undef = vx := by simpa using hx
  have hy' : tmps[y]?.getD undef = vy := by simpa using hy
  simp [results, hf, hp', hx', hy', asAddr, H.loadVar RT m hn]
theorem ret_row3H (RT : RowTy T n z) {fn : Func} {p x y : Tmp} (hf : fn.results = #[.cell p T, .tmp x, .tmp y]) {R : Ending → World → Prop} {b : Nat} (hp : a.tmps.getD p undef = .pointer (some ⟨b, 0, none⟩)) (hd : a.defers = [])
    (H : Heap W l w) {c : Array Value} {t : TypeId} (m : Cel b c t ∈ l) (hn : c.size = n) {vx vy : Value} (hx : a.tmps.getD x undef = vx) (hy : a.tmps.getD y undef = vy) (h : R (.returned (.tuple #[.agg c, vx, vy])) w) : bodyPost Tryd.prog fn R .ret a w := by
  have hp' : a.tmps[p]?.getD undef = .pointer (some ⟨b, 0, none⟩) := by simpa using hp
  have hx' : a.tmps[x]?.getD undef = vx := by simpa using hx
  have hy' : a.tmps[y]?.getD undef = vy := by simpa using hy
  exact bodyPost_ret (v := .tuple #[.agg c, vx, vy]) (by simp [results, hf, hp', hx', hy', asAddr, H.loadVar RT m hn]) hd h
theorem ret_row2H (RT : RowTy T n z) {fn : Func} {p x : Tmp} (hf : fn.results = #[.cell p T, .tmp x]) {R : Ending → World → Prop} {b : Nat} (hp : a.tmps.getD p undef = .pointer (some ⟨b, 0, none⟩)) (hd : a.defers = [])
    (H : Heap W l w) {c : Array Value} {t : TypeId} (m : Cel b c t ∈ l) (hn : c.size = n) {vx : Value} (hx : a.tmps.getD x undef = vx) (h : R (.returned (.tuple #[.agg c, vx])) w) : bodyPost Tryd.prog fn R .ret a w := by
  have hp' : a.tmps[p]?.getD undef = .pointer (some ⟨b, 0, none⟩) := by simpa using hp
  have hx' : a.tmps[x]?.getD undef = vx := by simpa using hx
  exact bodyPost_ret (v := .tuple #[.agg c, vx]) (by simp [results, hf, hp', hx', asAddr, H.loadVar RT m hn]) hd h
end
end Go.Proofs.YtlinhcbjljcgbaaDoor

/- More operations over a memory of things: slice literals. -/
namespace Go.Proofs.YtlinhcbjljcgbaaDoor
open Go.RowKit
set_option linter.unusedSimpArgs false
set_option maxRecDepth 100000
section
variable {ops : Array Oper} {rest : List Oper} {a : Act} {w W : World} {l : List Thing} {Q : Exit → Act → World → Prop}
/-- Slice literals of one-cell elements: the parts put in, one by one. -/
theorem fill_ones : ∀ (vs : List Value) (k : Nat) (pre post : List Value), pre.length = k → post.length = vs.length → (∀ v ∈ vs, v.cells = #[v]) → Instr.fill (fun i => some (i * 1, 1)) (pre ++ post).toArray (vs.zipIdx k |>.map fun (v, i) => (i, v)) = some (pre ++ vs).toArray
  | [], k, pre, post, hk, hl, _ => by
    have : post = [] := List.eq_nil_of_length_eq_zero (by simpa using hl)
    subst this; simp [Instr.fill]
  | v :: vs, k, pre, [], hk, hl, _ => by simp at hl
  | v :: vs, k, pre, y :: post, hk, hl, hv => by
    subst hk
    have h1 := hv v (List.mem_cons_self ..)
    simp only [List.zipIdx_cons, List.map_cons]
    unfold Instr.fill
    simp only [Nat.mul_one, h1, List.size_toArray, List.length_singleton, List.length_append, List.length_cons]
    rw [if_neg (by simp)]
    have e : (Array.foldl (fun (cs : Array Value) (x : Value × Nat) => cs.setIfInBounds (pre.length + x.2) x.1) (pre ++ y :: post).toArray (#[v] : Array Value).zipIdx) = ((pre ++ [v]) ++ post).toArray := by
      simp [List.set_append]
    rw [e]
    have := fill_ones vs (pre.length + 1) (pre ++ [v]) post (by simp) (by simpa using hl) (fun u hu => hv u (List.mem_cons_of_mem _ hu))
    simp only [Nat.mul_one] at this
    rw [this]
    simp
theorem wpl_bsOnes {dst : Option Tmp} {ty : TypeId} {pos : String} {after : Array Edge} {guard : Option (Nat × Bool)} {t e n : Nat} {z : Value} (xs : List (Nat × Operand)) (vs : List Value) (hw : Region.wanted ⟨dst, .buildSlice t n xs.toArray, ty, pos, after, guard⟩ (yielded ops a.tmps) = true)
    (hx : xs.map (fun (i, x) => (i, a.eval x)) = vs.zipIdx.map fun (v, i) => (i, v)) (hn : vs.length = n) (h0 : 0 < n) (h1 : n ≤ 65536) (hv : ∀ v ∈ vs, v.cells = #[v])
    (hT : Tryd.prog.underlying t = some (.slice e) ∧ (Tryd.prog.info? e).map (fun i => (i.size, i.zero)) = some (1, some z)) (hz : z.cells.size = 1)
    (H : Heap W l w) (h : ∀ p w', Heap W (Cel p vs.toArray e :: l) w' → wpList Tryd.prog ops Q rest (a.put dst (.slice (some ⟨p, 0, none⟩) n n)) w') : wpList Tryd.prog ops Q (⟨dst, .buildSlice t n xs.toArray, ty, pos, after, guard⟩ :: rest) a w := by
  obtain ⟨i, hi, he⟩ := Option.map_eq_some_iff.1 hT.2
  simp only [Prod.mk.injEq] at he
  have r1 : (sizeOf e).run Tryd.prog w = .ok 1 w := by simp [sizeOf, typeInfo, hi, he.1, go_sem]
  have r2 : (zeroValue e).run Tryd.prog w = .ok z w := by simp [zeroValue, typeInfo, hi, he.2, go_sem]
  have hf : Instr.fill (fun i => some (i * 1, 1)) (Array.map (fun x => z.cells[x % z.cells.size]!) (Array.range (n * 1))) (xs.toArray.map (fun (i, x) => (i, a.eval x))).toList = some vs.toArray := by
    have hx2 : (xs.toArray.map (fun (i, x) => (i, a.eval x))).toList = vs.zipIdx.map fun (v, i) => (i, v) := by rw [← hx]; simp
    rw [hx2]
    have := fill_ones vs 0 [] (List.map (fun x => z.cells[x % z.cells.size]!) (List.range (n * 1))) rfl (by simp [hn]) hv
    simp only [List.nil_append] at this
    rw [← this]
    congr 1
    apply Array.ext'
    simp
  refine BigFrame.wpList_want hw fun K hK => ?_
  have hrun : (Instr.buildSlice t n (xs.toArray.map fun (i, x) => (i, a.eval x))).run Tryd.prog w = .ok (.slice (some ⟨w.heap.size, 0, none⟩) n n) (w.alloc (.cells vs.toArray e)) := by
    unfold Instr.buildSlice
    rw [Sem.run_bind, run_underlying hT.1]
    simp only [Result.andThen_ok]
    rw [Sem.run_bind, r1]
    simp only [Result.andThen_ok]
    rw [if_neg (by omega), if_neg (by omega)]
    simp only [Sem.run_bind, r2, Result.andThen_ok, Sem.run_pure]
    rw [hf]
    simp [newRow, go_sem]
  unfold Oper.wp execOp
  simp only [Sem.run_bind, hrun, Result.andThen_ok, Sem.run_pure]
  exact hK _ _ (h _ _ (H.alloc _ _))
theorem rd_block {w : World} {b o : Nat} {xs : List Value} (R : Rd w (some ⟨b, o, none⟩) xs) {k n : Nat} (hn : k + n ≤ xs.length) (h0 : 0 < n) :
    ∃ cs t f, w.heap[b]? = some (.cells cs t f) ∧ o + k + n ≤ cs.size ∧ cs.extract (o + k) (o + k + n) = ((xs.drop k).take n).toArray := by
  have hc := R.get (i := k) (by omega)
  simp only [World.cell?, if_true] at hc
  cases hb : w.heap[b]? with
  | none => rw [hb] at hc; cases hc
  | some ob =>
    rw [hb] at hc
    cases ob <;> first | (cases hc; done) | skip
    rename_i cs t f
    have hget : ∀ i, i < xs.length → cs[o + i]? = xs[i]? := by
      intro i hi
      have h1 := R.get hi
      simp only [World.cell?, if_true, hb] at h1
      have h2 : cs[o + i]? = some xs[i] := by simpa using h1
      rw [h2]; simp [hi]
    have hlast := hget (k + n - 1) (by omega)
    have hsz : o + (k + n - 1) < cs.size := by
      rw [List.getElem?_eq_getElem (by omega)] at hlast
      exact (Array.getElem?_eq_some_iff.1 hlast).1
    refine ⟨cs, t, f, rfl, by omega, ?_⟩
    apply Array.ext_getElem?
    intro j
    rw [Array.getElem?_extract]
    by_cases hj : j < n
    · rw [if_pos (by omega), show o + k + j = o + (k + j) by omega, hget _ (by omega)]
      simp [List.getElem?_take, hj]
    · rw [if_neg (by omega)]
      simp [List.getElem?_take, hj]
theorem wpl_loadRdR {T n : Nat} {z : Array Value} {dst : Option Tmp} {ty : TypeId} {pos : String} {after : Array Edge} {guard : Option (Nat × Bool)} {x : Operand} {b off : Nat} (RT : RowTy T n z) (hw : Region.wanted ⟨dst, .load T x, ty, pos, after, guard⟩ (yielded ops a.tmps) = true) (hx : a.eval x = .pointer (some ⟨b, off, none⟩))
    {o k : Nat} {xs : List Value} {c1 : Array Value} (R : Rd w (some ⟨b, o, none⟩) xs) (hk : off = o + k) (hn : k + n ≤ xs.length) (h0 : 0 < n) (hv : ((xs.drop k).take n).toArray = c1) (h : wpList Tryd.prog ops Q rest (a.put dst (.agg c1)) w) : wpList Tryd.prog ops Q (⟨dst, .load T x, ty, pos, after, guard⟩ :: rest) a w := by
  subst hk
  obtain ⟨cs, t, f, hb, hs, he⟩ := rd_block R hn h0
  exact wpl_loadR RT hw hx hb hs (he.trans hv) h
end
end Go.Proofs.YtlinhcbjljcgbaaDoor
