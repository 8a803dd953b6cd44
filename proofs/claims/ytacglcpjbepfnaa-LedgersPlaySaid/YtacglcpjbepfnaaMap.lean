/- Maps as things: what they hold known up to the order of their entries. -/
import Derived.Test.YtacglcpjbepfnaaHeap
import Derived.Maps.RangeRun
import Derived.DeepKeys4
namespace Go.Proofs.Ytacglcpjbepfnaa
open Go.RowKit
set_option linter.unusedSimpArgs false
set_option linter.unusedVariables false
set_option maxRecDepth 100000

/-- What the laws need of a kind of keys. -/
structure KeyTy (k : TypeId) (KS : Value → Prop) : Prop where
  check : ∀ (w : World) (em : Bool) {v : Value}, KS v → (Instr.checkKey em 10000 k v).run Try.prog w = .ok () w
  find : ∀ (w : World) {x : Value}, KS x → ∀ es : List MapEntry, (∀ e ∈ es, KS e.key) →
    ((Instr.findKey k x es).run Try.prog w = .ok none w ∧ ∀ e ∈ es, e.key ≠ x) ∨ ∃ j e, (Instr.findKey k x es).run Try.prog w = .ok (some (j, e.val)) w ∧ es[j]? = some e ∧ e.key = x
  stays : ∀ (w : World) {v : Value}, KS v → (Instr.keyThatStays v v).run Try.prog w = .ok v w
theorem KeyTy.of {k : TypeId} (K : WideMaps.KeyLaw Try.prog k) : KeyTy k (fun v => ∃ l, keyOf Try.prog k v = some l) where
  check w em _ h := by obtain ⟨l, h⟩ := h; exact K.check w em h
  find w _ h es hes := by obtain ⟨l, h⟩ := h; exact K.find w h es hes
  stays w _ h := by obtain ⟨l, h⟩ := h; exact K.stays w h

def kvOf (e : MapEntry) : Value × Value := (e.key, e.val)
/-- These entries are those of L, in whatever order. -/
structure HoldsM (KS : Value → Prop) (es : Array MapEntry) (clock : Nat) (L : List (Value × Value)) : Prop where
  st : MapKept.Stamped es clock
  perm : (es.toList.map kvOf).Perm L
  ks : ∀ e ∈ es.toList, KS e.key
/-- A map in a block. -/
def MapT (KS : Value → Prop) (p : Nat) (L : List (Value × Value)) : Thing := ⟨some p, fun w => ∃ es clock, w.heap[p]? = some (.map es clock) ∧ HoldsM KS es clock L, fun _ _ h ⟨es, c, hb, hh⟩ => ⟨es, c, (h p rfl).trans hb, hh⟩⟩
/-- A map's block, known whole. -/
def MapX (p : Nat) (es : Array MapEntry) (clock : Nat) : Thing := ⟨some p, fun w => w.heap[p]? = some (.map es clock), fun _ _ h hb => (h p rfl).trans hb⟩
/-- An iterator over the map in block p. -/
def IterX (r p since : Nat) (seen : Array Nat) (c0 : Nat) : Thing := ⟨some r, fun w => w.heap[r]? = some (.mapIter (some p) since seen c0), fun _ _ h hb => (h r rfl).trans hb⟩

/-- What m[key] is: b: whether it is there. -/
def Look (L : List (Value × Value)) (key z : Value) (b : Bool) (r : Value) : Prop := (b = true ∧ (key, r) ∈ L) ∨ (b = false ∧ r = z ∧ ∀ x ∈ L, x.1 ≠ key)
/-- L' is L behind m[key] = v. -/
def PutM (L : List (Value × Value)) (key v : Value) (L' : List (Value × Value)) : Prop := ∃ rest, (∀ x ∈ rest, x.1 ≠ key) ∧ (L.Perm rest ∨ ∃ v0, L.Perm ((key, v0) :: rest)) ∧ L'.Perm ((key, v) :: rest)
/-- L' is L behind delete(m, key). -/
def DelM (L : List (Value × Value)) (key : Value) (L' : List (Value × Value)) : Prop := ∃ rest, (∀ x ∈ rest, x.1 ≠ key) ∧ (L.Perm rest ∨ ∃ v0, L.Perm ((key, v0) :: rest)) ∧ L'.Perm rest

theorem Repl.of_mem {l : List Thing} {x : Thing} (x' : Thing) (m : x ∈ l) : ∃ l', Repl l x x' l' := by
  induction l with
  | nil => cases m
  | cons y l ih =>
    rcases List.mem_cons.1 m with rfl | m
    · exact ⟨_, .here⟩
    · obtain ⟨l', hl'⟩ := ih m
      exact ⟨_, .there hl'⟩
theorem Repl.same {l l1 l2 : List Thing} {x x' : Thing} (h1 : Repl l x x' l1) (h2 : Repl l x x' l2) : l1.Perm l2 := by
  obtain ⟨r, a1, b1⟩ := h1.perm
  obtain ⟨s, a2, b2⟩ := h2.perm
  exact b1.trans (((a1.symm.trans a2).cons_inv.cons _).trans b2.symm)
theorem perm_erase {α : Type} : ∀ (l : List α) (j : Nat) (h : j < l.length), l.Perm (l[j] :: l.eraseIdx j)
  | [], j, h => by simp at h
  | x :: l, 0, _ => by simp
  | x :: l, j + 1, h => by
    simp only [List.getElem_cons_succ, List.eraseIdx_cons_succ]
    exact ((perm_erase l j (by simpa using h)).cons x).trans (.swap _ _ _)
section
variable {KS : Value → Prop} {es : Array MapEntry} {clock p : Nat} {L L' : List (Value × Value)} {w : World} {t k e : TypeId}
theorem HoldsM.size (h : HoldsM KS es clock L) : es.size = L.length := by
  have := h.perm.length_eq
  simpa using this
theorem HoldsM.keys (h : HoldsM KS es clock L) : (L.map (·.1)).Nodup := by
  have h3 := ((MapKept.stamped_iff es clock).1 h.st).2.2
  have : ((es.toList.map kvOf).map (·.1)).Nodup := by
    unfold List.Nodup
    rw [List.pairwise_map, List.pairwise_map]
    exact h3
  exact (h.perm.map (·.1)).nodup_iff.1 this
theorem HoldsM.entry (h : HoldsM KS es clock L) {x : Value × Value} (hx : x ∈ L) : ∃ en ∈ es.toList, kvOf en = x := by
  have := h.perm.mem_iff.2 hx
  obtain ⟨en, h1, h2⟩ := List.mem_map.1 this
  exact ⟨en, h1, h2⟩
theorem HoldsM.mem (h : HoldsM KS es clock L) {en : MapEntry} (hx : en ∈ es.toList) : (en.key, en.val) ∈ L := h.perm.mem_iff.1 (List.mem_map.2 ⟨en, hx, rfl⟩)
theorem nodup_fst {L : List (Value × Value)} (h : (L.map (·.1)).Nodup) {k v v' : Value} (h1 : (k, v) ∈ L) (h2 : (k, v') ∈ L) : v = v' := by
  induction L with
  | nil => cases h1
  | cons x r ih =>
    simp only [List.map_cons, List.nodup_cons] at h
    rcases List.mem_cons.1 h1 with h1 | h1 <;> rcases List.mem_cons.1 h2 with h2 | h2
    · rw [← h1] at h2; exact (Prod.mk.inj h2).2.symm
    · exact absurd (List.mem_map.2 ⟨_, h2, by rw [← h1]⟩) h.1
    · exact absurd (List.mem_map.2 ⟨_, h1, by rw [← h2]⟩) h.1
    · exact ih h.2 h1 h2
theorem run_lookM (K : KeyTy k KS) (ht : Try.prog.underlying t = some (.map k e)) {z : Value} (hz : (zeroValue e).run Try.prog w = .ok z w) (hb : w.heap[p]? = some (.map es clock)) (hh : HoldsM KS es clock L) {key : Value} (hk : KS key) {b : Bool} {r : Value} (hl : Look L key z b r) (c : Bool) :
    (Instr.lookup t (.map (some p)) key c).run Try.prog w = .ok (if c then .tuple #[r, .bool b] else r) w := by
  rcases K.find w hk es.toList hh.ks with ⟨h1, h2⟩ | ⟨j, e0, h1, h2, h3⟩
  · rcases hl with ⟨rfl, hm⟩ | ⟨rfl, rfl, _⟩
    · obtain ⟨en, hen, hkv⟩ := hh.entry hm
      exact absurd (by simpa [kvOf] using congrArg Prod.fst hkv) (h2 en hen)
    · simp [Instr.lookup, run_underlying ht, MapKept.run_getObj_map hb, K.check w _ hk, h1, hz, Result.andThen]
  · have hm := hh.mem (List.mem_of_getElem? h2)
    rcases hl with ⟨rfl, hm2⟩ | ⟨rfl, rfl, hn⟩
    · rw [h3] at hm
      obtain rfl := nodup_fst hh.keys hm2 hm
      simp [Instr.lookup, run_underlying ht, MapKept.run_getObj_map hb, K.check w _ hk, h1, Result.andThen]
    · exact absurd h3 (hn _ hm)
theorem run_putM (K : KeyTy k KS) (ht : Try.prog.underlying t = some (.map k e)) (hb : w.heap[p]? = some (.map es clock)) (hh : HoldsM KS es clock L) {key v : Value} (hk : KS key) (hp : PutM L key v L') :
    ∃ es' clock', (Instr.mapUpdate t (.map (some p)) key v).run Try.prog w = .ok () (ChangeMaps.setBlock w p (.map es' clock')) ∧ HoldsM KS es' clock' L' := by
  obtain ⟨rest, hr, hL, hL'⟩ := hp
  rcases K.find w hk es.toList hh.ks with ⟨h1, h2⟩ | ⟨j, e0, h1, h2, h3⟩
  · refine ⟨es.push ⟨key, v, clock⟩, clock + 1, ?_, MapKept.stamped_push hh.st h2, ?_, ?_⟩
    · simp [Instr.mapUpdate, run_underlying ht, MapKept.run_getObj_map hb, K.check w false hk, h1, MapKept.run_setObj_map _ hb, Result.andThen, ChangeMaps.setBlock]
    · rcases hL with hL | ⟨v0, hL⟩
      · simp only [Array.toList_push, List.map_append, List.map_cons, List.map_nil]
        refine (List.perm_append_singleton _ _).trans ?_
        exact (((hh.perm.trans hL).cons _).trans hL'.symm)
      · exfalso
        obtain ⟨en, hen, hkv⟩ := hh.entry (hL.mem_iff.2 (List.mem_cons_self ..))
        exact h2 en hen (by simpa [kvOf] using congrArg Prod.fst hkv)
    · intro x hx
      simp only [Array.toList_push, List.mem_append, List.mem_singleton] at hx
      rcases hx with hx | rfl
      · exact hh.ks x hx
      · exact hk
  · have hj : es[j]? = some e0 := by simpa using h2
    have hjl : j < es.toList.length := (List.getElem?_eq_some_iff.1 h2).1
    have hje : es.toList[j] = e0 := (List.getElem?_eq_some_iff.1 h2).2
    have hlist : (es.modify j (fun e' => { e' with key := key, val := v })).toList = es.toList.set j { e0 with key := key, val := v } := by rw [Array.toList_modify, ChangeMaps.modify_eq_set _ _ _ _ h2]
    refine ⟨es.modify j (fun e' => { e' with key := key, val := v }), clock, ?_, MapKept.stamped_modify hh.st _ _ (fun _ _ => rfl) (fun e' _ he' => by rw [hj] at he'; cases he'; exact h3.symm), ?_, ?_⟩
    · simp [Instr.mapUpdate, run_underlying ht, MapKept.run_getObj_map hb, K.check w false hk, h1, hj, h3, K.stays w hk, MapKept.run_setObj_map _ hb, Result.andThen, ChangeMaps.setBlock]
    · rw [hlist, List.map_set]
      have hp0 : (es.toList.map kvOf).Perm (kvOf e0 :: (es.toList.map kvOf).eraseIdx j) := by
        have := perm_erase (es.toList.map kvOf) j (by simpa using hjl)
        rw [List.getElem_map, hje] at this
        exact this
      have hp1 : ((es.toList.map kvOf).set j (kvOf { e0 with key := key, val := v })).Perm ((key, v) :: (es.toList.map kvOf).eraseIdx j) := ChangeMaps.set_perm _ _ (by simpa using hjl) _
      refine hp1.trans (List.Perm.trans ?_ hL'.symm)
      refine List.Perm.cons _ ?_
      have hk0 : kvOf e0 = (key, e0.val) := by unfold kvOf; rw [h3]
      rw [hk0] at hp0
      rcases hL with hL | ⟨v0, hL⟩
      · exfalso
        have := (hh.perm.trans hL).mem_iff.1 (hp0.mem_iff.2 (List.mem_cons_self ..))
        exact hr _ this rfl
      · have h5 := (hp0.symm.trans (hh.perm.trans hL))
        have hv : e0.val = v0 := nodup_fst hh.keys (hh.perm.mem_iff.1 (hp0.mem_iff.2 (List.mem_cons_self ..))) (hL.mem_iff.2 (List.mem_cons_self ..))
        rw [hv] at h5
        exact h5.cons_inv
    · intro x hx
      rw [hlist] at hx
      rcases List.mem_or_eq_of_mem_set hx with hx | rfl
      · exact hh.ks x hx
      · exact hk
theorem run_delM {ty : TypeId} (K : KeyTy k KS) (ht : Try.prog.underlying t = some (.map k e)) (hb : w.heap[p]? = some (.map es clock)) (hh : HoldsM KS es clock L) {key : Value} (hk : KS key) (hp : DelM L key L') :
    ∃ es' clock', (Builtin.delete_ #[t, k] ty #[.map (some p), key]).run Try.prog w = .ok (.tuple #[]) (ChangeMaps.setBlock w p (.map es' clock')) ∧ HoldsM KS es' clock' L' := by
  obtain ⟨rest, hr, hL, hL'⟩ := hp
  rcases K.find w hk es.toList hh.ks with ⟨h1, h2⟩ | ⟨j, e0, h1, h2, h3⟩
  · refine ⟨es, clock, ?_, hh.st, ?_, hh.ks⟩
    · simp [Builtin.delete_, run_underlying ht, MapKept.run_getObj_map hb, K.check w _ hk, h1, MapKept.run_setObj_map _ hb, Result.andThen, ChangeMaps.setBlock]
    · rcases hL with hL | ⟨v0, hL⟩
      · exact (hh.perm.trans hL).trans hL'.symm
      · exfalso
        obtain ⟨en, hen, hkv⟩ := hh.entry (hL.mem_iff.2 (List.mem_cons_self ..))
        exact h2 en hen (by simpa [kvOf] using congrArg Prod.fst hkv)
  · have hjl : j < es.toList.length := (List.getElem?_eq_some_iff.1 h2).1
    have hjs : j < es.size := by simpa using hjl
    have hje : es.toList[j] = e0 := (List.getElem?_eq_some_iff.1 h2).2
    have hsub : (es.eraseIdxIfInBounds j).toList = es.toList.eraseIdx j := by
      unfold Array.eraseIdxIfInBounds
      rw [dif_pos hjs]
      simp
    refine ⟨es.eraseIdxIfInBounds j, clock, ?_, MapKept.stamped_erase hh.st j, ?_, ?_⟩
    · simp [Builtin.delete_, run_underlying ht, MapKept.run_getObj_map hb, K.check w _ hk, h1, MapKept.run_setObj_map _ hb, Result.andThen, ChangeMaps.setBlock]
    · rw [hsub, ChangeMaps.map_eraseIdx]
      have hp0 : (es.toList.map kvOf).Perm (kvOf e0 :: (es.toList.map kvOf).eraseIdx j) := by
        have := perm_erase (es.toList.map kvOf) j (by simpa using hjl)
        rw [List.getElem_map, hje] at this
        exact this
      have hk0 : kvOf e0 = (key, e0.val) := by unfold kvOf; rw [h3]
      rw [hk0] at hp0
      refine List.Perm.trans ?_ hL'.symm
      rcases hL with hL | ⟨v0, hL⟩
      · exfalso
        exact hr _ ((hh.perm.trans hL).mem_iff.1 (hp0.mem_iff.2 (List.mem_cons_self ..))) rfl
      · have hv : e0.val = v0 := nodup_fst hh.keys (hh.perm.mem_iff.1 (hp0.mem_iff.2 (List.mem_cons_self ..))) (hL.mem_iff.2 (List.mem_cons_self ..))
        have h5 := hp0.symm.trans (hh.perm.trans hL)
        rw [hv] at h5
        exact h5.cons_inv
    · intro x hx
      rw [hsub] at hx
      exact hh.ks x ((List.eraseIdx_sublist _ _).subset hx)
theorem grown_setBlock {p : Nat} {o : Obj} : w.grownBy (ChangeMaps.setBlock w p o) (some p) :=
  ⟨rfl, rfl, rfl, by simp [ChangeMaps.setBlock], fun k _ hk => by
    have hne : p ≠ k := fun e => hk (by rw [e])
    simp [ChangeMaps.setBlock, Array.getElem?_setIfInBounds_ne hne]⟩
theorem setBlock_at {p : Nat} {o o' : Obj} (h : w.heap[p]? = some o) : (ChangeMaps.setBlock w p o').heap[p]? = some o' := by
  have hlt : p < w.heap.size := (Array.getElem?_eq_some_iff.1 h).1
  simp [ChangeMaps.setBlock, hlt]
end

section
variable {ops : Array Oper} {rest : List Oper} {a : Act} {w W : World} {l l' : List Thing} {Q : Exit → Act → World → Prop} {KS : Value → Prop} {k e : TypeId} {L L' : List (Value × Value)}
/-- What a map's type and its elements' zero say. -/
structure MapTy (t k e : TypeId) (KS : Value → Prop) (z : Value) : Prop where
  und : Try.prog.underlying t = some (.map k e)
  key : KeyTy k KS
  zero : ∀ w, (zeroValue e).run Try.prog w = .ok z w
theorem wpl_look {dst : Option Tmp} {ty : TypeId} {pos : String} {after : Array Edge} {guard : Option (Nat × Bool)} {t : TypeId} {x y : Operand} {p : Nat} {key z r : Value} {b c : Bool} (MT : MapTy t k e KS z) (hw : Region.wanted ⟨dst, .lookup t x y c, ty, pos, after, guard⟩ (yielded ops a.tmps) = true) (hx : a.eval x = .map (some p)) (hy : a.eval y = key) (hk : KS key)
    (H : Heap W l w) (m : MapT KS p L ∈ l) (hl : Look L key z b r) (h : wpList Try.prog ops Q rest (a.put dst (if c then .tuple #[r, .bool b] else r)) w) : wpList Try.prog ops Q (⟨dst, .lookup t x y c, ty, pos, after, guard⟩ :: rest) a w := by
  obtain ⟨es, clock, hb, hh⟩ := H.ok _ m
  refine BigFrame.wpList_want hw fun K hK => ?_
  unfold Oper.wp execOp
  simp only [hx, hy, Sem.run_bind, run_lookM MT.key MT.und (MT.zero w) hb hh hk hl c, Result.andThen_ok, Sem.run_pure]
  exact hK _ _ h
theorem wpQ_look {K : Act → Prop} {H : Heap W l w} {dst : Option Tmp} {ty : TypeId} {pos : String} {after : Array Edge} {guard : Option (Nat × Bool)} {t : TypeId} {x y : Operand} {p : Nat} {key z r : Value} {b c : Bool} (MT : MapTy t k e KS z) (hw : Region.wanted ⟨dst, .lookup t x y c, ty, pos, after, guard⟩ (yielded ops a.tmps) = true) (hx : a.eval x = .map (some p)) (hy : a.eval y = key) (hk : KS key)
    (m : MapT KS p L ∈ l) (hl : Look L key z b r) (h : wpQuiet Try.prog ops (fun w' => ∃ d, w' = H.any d) K rest (a.put dst (if c then .tuple #[r, .bool b] else r))) : wpQuiet Try.prog ops (fun w' => ∃ d, w' = H.any d) K (⟨dst, .lookup t x y c, ty, pos, after, guard⟩ :: rest) a := by
  refine BigFrame.wpQuiet_want hw fun K hK => ⟨_, ?_, hK _ h⟩
  rintro _ ⟨d, rfl⟩
  obtain ⟨es, clock, hb, hh⟩ := (H.any_heap d).ok _ m
  unfold Oper.quietAt execOp
  simp only [hx, hy, Sem.run_bind, run_lookM MT.key MT.und (MT.zero _) hb hh hk hl c]
  exact ⟨rfl, rfl⟩
theorem wpl_look0 {dst : Option Tmp} {ty : TypeId} {pos : String} {after : Array Edge} {guard : Option (Nat × Bool)} {t : TypeId} {x y : Operand} {p : Nat} {key z r : Value} {b : Bool} (MT : MapTy t k e KS z) (hw : Region.wanted ⟨dst, .lookup t x y false, ty, pos, after, guard⟩ (yielded ops a.tmps) = true) (hx : a.eval x = .map (some p)) (hy : a.eval y = key) (hk : KS key)
    (H : Heap W l w) (m : MapT KS p L ∈ l) (hl : Look L key z b r) (h : wpList Try.prog ops Q rest (a.put dst (r)) w) : wpList Try.prog ops Q (⟨dst, .lookup t x y false, ty, pos, after, guard⟩ :: rest) a w :=
  wpl_look MT hw hx hy hk H m hl (by rw [if_neg Bool.false_ne_true]; exact h)
theorem wpl_look1 {dst : Option Tmp} {ty : TypeId} {pos : String} {after : Array Edge} {guard : Option (Nat × Bool)} {t : TypeId} {x y : Operand} {p : Nat} {key z r : Value} {b : Bool} (MT : MapTy t k e KS z) (hw : Region.wanted ⟨dst, .lookup t x y true, ty, pos, after, guard⟩ (yielded ops a.tmps) = true) (hx : a.eval x = .map (some p)) (hy : a.eval y = key) (hk : KS key)
    (H : Heap W l w) (m : MapT KS p L ∈ l) (hl : Look L key z b r) (h : wpList Try.prog ops Q rest (a.put dst (.tuple #[r, .bool b])) w) : wpList Try.prog ops Q (⟨dst, .lookup t x y true, ty, pos, after, guard⟩ :: rest) a w :=
  wpl_look MT hw hx hy hk H m hl (by rw [if_pos rfl]; exact h)
theorem wpQ_look0 {K : Act → Prop} {H : Heap W l w} {dst : Option Tmp} {ty : TypeId} {pos : String} {after : Array Edge} {guard : Option (Nat × Bool)} {t : TypeId} {x y : Operand} {p : Nat} {key z r : Value} {b : Bool} (MT : MapTy t k e KS z) (hw : Region.wanted ⟨dst, .lookup t x y false, ty, pos, after, guard⟩ (yielded ops a.tmps) = true) (hx : a.eval x = .map (some p)) (hy : a.eval y = key) (hk : KS key)
    (m : MapT KS p L ∈ l) (hl : Look L key z b r) (h : wpQuiet Try.prog ops (fun w' => ∃ d, w' = H.any d) K rest (a.put dst (r))) : wpQuiet Try.prog ops (fun w' => ∃ d, w' = H.any d) K (⟨dst, .lookup t x y false, ty, pos, after, guard⟩ :: rest) a :=
  wpQ_look MT hw hx hy hk m hl (by rw [if_neg Bool.false_ne_true]; exact h)
theorem wpQ_look1 {K : Act → Prop} {H : Heap W l w} {dst : Option Tmp} {ty : TypeId} {pos : String} {after : Array Edge} {guard : Option (Nat × Bool)} {t : TypeId} {x y : Operand} {p : Nat} {key z r : Value} {b : Bool} (MT : MapTy t k e KS z) (hw : Region.wanted ⟨dst, .lookup t x y true, ty, pos, after, guard⟩ (yielded ops a.tmps) = true) (hx : a.eval x = .map (some p)) (hy : a.eval y = key) (hk : KS key)
    (m : MapT KS p L ∈ l) (hl : Look L key z b r) (h : wpQuiet Try.prog ops (fun w' => ∃ d, w' = H.any d) K rest (a.put dst (.tuple #[r, .bool b]))) : wpQuiet Try.prog ops (fun w' => ∃ d, w' = H.any d) K (⟨dst, .lookup t x y true, ty, pos, after, guard⟩ :: rest) a :=
  wpQ_look MT hw hx hy hk m hl (by rw [if_pos rfl]; exact h)
theorem wpl_putM {dst : Option Tmp} {ty : TypeId} {pos : String} {after : Array Edge} {guard : Option (Nat × Bool)} {t : TypeId} {x y u : Operand} {p : Nat} {key z v : Value} (MT : MapTy t k e KS z) (hw : Region.wanted ⟨dst, .mapUpdate t x y u, ty, pos, after, guard⟩ (yielded ops a.tmps) = true) (hx : a.eval x = .map (some p)) (hy : a.eval y = key) (hu : a.eval u = v) (hk : KS key)
    (H : Heap W l w) (hp : PutM L key v L') (r : Repl l (MapT KS p L) (MapT KS p L') l') (h : ∀ w', Heap W l' w' → wpList Try.prog ops Q rest (a.put dst undef) w') : wpList Try.prog ops Q (⟨dst, .mapUpdate t x y u, ty, pos, after, guard⟩ :: rest) a w := by
  obtain ⟨es, clock, hb, hh⟩ := H.ok _ r.mem
  obtain ⟨es', clock', hrun, hh'⟩ := run_putM MT.key MT.und hb hh hk hp
  refine BigFrame.wpList_want hw fun K hK => ?_
  unfold Oper.wp execOp
  simp only [hx, hy, hu, Sem.run_bind, hrun, Result.andThen_ok, Sem.run_pure]
  exact hK _ _ (h _ (H.upd r grown_setBlock ⟨es', clock', setBlock_at hb, hh'⟩ (.inl rfl)))
theorem wpl_delM {dst : Option Tmp} {ty : TypeId} {pos : String} {after : Array Edge} {guard : Option (Nat × Bool)} {t : TypeId} {x y : Operand} {p : Nat} {key z : Value} (MT : MapTy t k e KS z) (hw : Region.wanted ⟨dst, .call { callee := .builtin .delete, args := #[x, y], argTypes := #[t, k] }, ty, pos, after, guard⟩ (yielded ops a.tmps) = true) (hx : a.eval x = .map (some p)) (hy : a.eval y = key) (hk : KS key)
    (H : Heap W l w) (hp : DelM L key L') (r : Repl l (MapT KS p L) (MapT KS p L') l') (h : ∀ w', Heap W l' w' → wpList Try.prog ops Q rest (a.put dst (.tuple #[])) w') : wpList Try.prog ops Q (⟨dst, .call { callee := .builtin .delete, args := #[x, y], argTypes := #[t, k] }, ty, pos, after, guard⟩ :: rest) a w := by
  obtain ⟨es, clock, hb, hh⟩ := H.ok _ r.mem
  obtain ⟨es', clock', hrun, hh'⟩ := run_delM (ty := ty) MT.key MT.und hb hh hk hp
  refine BigFrame.wpList_want hw fun K hK => ?_
  unfold Oper.wp execOp
  simp only [resolve, invoke, builtin, List.map_toArray, List.map_cons, List.map_nil, hx, hy, Sem.run_bind, Sem.run_pure, hrun, Result.andThen_ok]
  exact hK _ _ (h _ (H.upd r grown_setBlock ⟨es', clock', setBlock_at hb, hh'⟩ (.inl rfl)))
theorem wpl_makeM {dst : Option Tmp} {ty : TypeId} {pos : String} {after : Array Edge} {guard : Option (Nat × Bool)} {t : TypeId} (hw : Region.wanted ⟨dst, .makeMap t none, ty, pos, after, guard⟩ (yielded ops a.tmps) = true)
    (H : Heap W l w) (h : ∀ p w', Heap W (MapT KS p [] :: l) w' → wpList Try.prog ops Q rest (a.put dst (.map (some p))) w') : wpList Try.prog ops Q (⟨dst, .makeMap t none, ty, pos, after, guard⟩ :: rest) a w := by
  refine BigFrame.wpList_want hw fun K hK => ?_
  unfold Oper.wp execOp
  simp only [Option.map_none, Instr.makeMap, newObj, Sem.run_bind]
  refine hK _ _ (h w.heap.size (w.alloc (.map #[] 0)) ?_)
  exact H.add ⟨rfl, rfl, rfl, by simp, fun k hk _ => Below.heap_alloc _ _ _ hk⟩ ⟨#[], 0, heap_alloc_new w _, MapKept.stamped_empty 0, by simp, by simp⟩ (fun k hk => by cases hk; exact ⟨Nat.le_refl _, by simp⟩)
theorem run_lenM {ty t p : Nat} (hu : Try.prog.underlying t = some (.map k e)) (H : Heap W l w) (m : MapT KS p L ∈ l) : (Builtin.len_ #[t] ty #[.map (some p)]).run Try.prog w = .ok (goInt L.length) w := by
  obtain ⟨es, clock, hb, hh⟩ := H.ok _ m
  simp [Builtin.len_, run_underlying hu, MapKept.run_getObj_map hb, hh.size, Result.andThen]
theorem wpl_lenM {dst : Option Tmp} {ty : TypeId} {pos : String} {after : Array Edge} {guard : Option (Nat × Bool)} {t : TypeId} {x : Operand} {p : Nat} (hu : Try.prog.underlying t = some (.map k e)) (hw : Region.wanted ⟨dst, .call { callee := .builtin .len, args := #[x], argTypes := #[t] }, ty, pos, after, guard⟩ (yielded ops a.tmps) = true) (hx : a.eval x = .map (some p))
    (H : Heap W l w) (m : MapT KS p L ∈ l) (h : wpList Try.prog ops Q rest (a.put dst (.int .i64 (L.length : Int))) w) : wpList Try.prog ops Q (⟨dst, .call { callee := .builtin .len, args := #[x], argTypes := #[t] }, ty, pos, after, guard⟩ :: rest) a w := by
  refine BigFrame.wpList_want hw fun K hK => ?_
  unfold Oper.wp execOp
  simp only [resolve, invoke, builtin, List.map_toArray, List.map_cons, List.map_nil, hx, Sem.run_bind, Sem.run_pure, run_lenM hu H m, Result.andThen_ok]
  exact hK _ _ h
theorem wpQ_lenM {K : Act → Prop} {H : Heap W l w} {dst : Option Tmp} {ty : TypeId} {pos : String} {after : Array Edge} {guard : Option (Nat × Bool)} {t : TypeId} {x : Operand} {p : Nat} (hu : Try.prog.underlying t = some (.map k e)) (hw : Region.wanted ⟨dst, .call { callee := .builtin .len, args := #[x], argTypes := #[t] }, ty, pos, after, guard⟩ (yielded ops a.tmps) = true) (hx : a.eval x = .map (some p))
    (m : MapT KS p L ∈ l) (h : wpQuiet Try.prog ops (fun w' => ∃ d, w' = H.any d) K rest (a.put dst (.int .i64 (L.length : Int)))) : wpQuiet Try.prog ops (fun w' => ∃ d, w' = H.any d) K (⟨dst, .call { callee := .builtin .len, args := #[x], argTypes := #[t] }, ty, pos, after, guard⟩ :: rest) a := by
  refine BigFrame.wpQuiet_want hw fun K hK => ⟨_, ?_, hK _ h⟩
  rintro _ ⟨d, rfl⟩
  unfold Oper.quietAt execOp
  simp only [resolve, invoke, builtin, List.map_toArray, List.map_cons, List.map_nil, hx, Sem.run_bind, Sem.run_pure, run_lenM hu (H.any_heap d) m, Result.andThen_ok]
  exact ⟨rfl, rfl⟩
/-- A map laid open, and shut again. -/
theorem Heap.openM {p : Nat} (H : Heap W (MapT KS p L :: l) w) : ∃ es clock, HoldsM KS es clock L ∧ Heap W (MapX p es clock :: l) w := by
  obtain ⟨es, clock, hb, hh⟩ := H.ok _ (List.mem_cons_self ..)
  exact ⟨es, clock, hh, H.head (World.grownBy.refl _ _) hb (.inl rfl)⟩
theorem Heap.shutM {p : Nat} {es : Array MapEntry} {clock : Nat} (H : Heap W (MapX p es clock :: l) w) (hh : HoldsM KS es clock L) : Heap W (MapT KS p L :: l) w :=
  H.head (World.grownBy.refl _ _) ⟨es, clock, H.ok _ (List.mem_cons_self ..), hh⟩ (.inl rfl)
theorem wpl_rangeM {dst : Option Tmp} {ty : TypeId} {pos : String} {after : Array Edge} {guard : Option (Nat × Bool)} {t : TypeId} {x : Operand} {p : Nat} {es : Array MapEntry} {clock : Nat} (hu : Try.prog.underlying t = some (.map k e)) (hw : Region.wanted ⟨dst, .range t x, ty, pos, after, guard⟩ (yielded ops a.tmps) = true) (hx : a.eval x = .map (some p))
    (H : Heap W l w) (m : MapX p es clock ∈ l) (h : ∀ r w', Heap W (IterX r p clock #[] clock :: l) w' → wpList Try.prog ops Q rest (a.put dst (.pointer (some ⟨r, 0, none⟩))) w') : wpList Try.prog ops Q (⟨dst, .range t x, ty, pos, after, guard⟩ :: rest) a w := by
  refine BigFrame.wpList_want hw fun K hK => ?_
  unfold Oper.wp execOp
  simp only [hx, Sem.run_bind, run_range_map w t k e p es clock hu (H.ok _ m), Result.andThen_ok, Sem.run_pure]
  refine hK _ _ (h w.heap.size (w.alloc (.mapIter (some p) clock #[] clock)) ?_)
  exact H.add ⟨rfl, rfl, rfl, by simp, fun k hk _ => Below.heap_alloc _ _ _ hk⟩ (heap_alloc_new w _) (fun k hk => by cases hk; exact ⟨Nat.le_refl _, by simp⟩)
/-- The step of a range over a map: all are done; or one more comes. -/
theorem wpl_nextM {dst : Option Tmp} {ty : TypeId} {pos : String} {after : Array Edge} {guard : Option (Nat × Bool)} {x : Operand} {r p c0 : Nat} {es : Array MapEntry} {clock : Nat} {done : List MapEntry} (hw : Region.wanted ⟨dst, .next x false, ty, pos, after, guard⟩ (yielded ops a.tmps) = true) (hx : a.eval x = .pointer (some ⟨r, 0, none⟩))
    (hst : MapKept.Stamped es clock) (hc : clock ≤ c0) (hd : ∀ y ∈ done, y ∈ es.toList) (hnd : done.Nodup) (H : Heap W l w) (m : MapX p es clock ∈ l) (m2 : IterX r p clock (done.map (fun e : MapEntry => e.born)).toArray c0 ∈ l)
    (h0 : done.Perm es.toList → wpList Try.prog ops Q rest (a.put dst (.tuple #[.bool false])) w)
    (h1 : ∀ en ∈ es.toList, en ∉ done → ∀ l', Repl l (IterX r p clock (done.map (fun e : MapEntry => e.born)).toArray c0) (IterX r p clock ((done ++ [en]).map (fun e : MapEntry => e.born)).toArray clock) l' → ∀ w', Heap W l' w' → (∀ w2 l2, Heap W l2 w2 → MapX p es clock ∈ l2 → IterX r p clock ((done ++ [en]).map (fun e : MapEntry => e.born)).toArray clock ∈ l2 → (Instr.entry (.pointer (some ⟨r, 0, none⟩))).run Try.prog w2 = .ok (.tuple #[en.key, en.val]) w2) → wpList Try.prog ops Q rest (a.put dst (.tuple #[.bool true, en.key, en.val])) w') :
    wpList Try.prog ops Q (⟨dst, .next x false, ty, pos, after, guard⟩ :: rest) a w := by
  obtain ⟨s1, s2, s3⟩ := (MapKept.stamped_iff es clock).1 hst
  have hne : es.toList.Nodup := (List.Pairwise.of_map (fun (e : MapEntry) => e.born) (fun x y h e => h (by rw [e])) s2)
  have hinj : ∀ x ∈ es.toList, ∀ y ∈ es.toList, x.born = y.born → x = y := fun x hx y hy e => by
    exact born_inj s2 hx hy e
  refine BigFrame.wpList_want hw fun K hK => ?_
  unfold Oper.wp execOp
  have hr0 : w.heap[r]? = some (.mapIter (some p) clock (done.map (fun e : MapEntry => e.born)).toArray c0) := H.ok _ m2
  have hm0 : w.heap[p]? = some (.map es clock) := H.ok _ m
  rcases run_next_at (P := Try.prog) w ty r p clock c0 (done.map (fun e : MapEntry => e.born)).toArray es clock hr0 hm0 s1 hc with ⟨hz, hrun⟩ | ⟨en, hen, w1, hw1, hrun⟩
  · simp only [hx, Sem.run_bind, hrun, Result.andThen_ok, Sem.run_pure]
    refine hK _ _ (h0 ?_)
    refine (List.perm_ext_iff_of_nodup hnd hne).2 fun y => ⟨hd y, fun hy => ?_⟩
    have : leftOf es (done.map (fun e : MapEntry => e.born)).toArray = #[] := Array.eq_empty_of_size_eq_zero hz
    unfold leftOf at this
    rw [Array.filter_eq_empty_iff] at this
    have := this y (by simpa using hy)
    simp only [List.contains_toArray, Bool.not_eq_eq_eq_not, Bool.not_true, Bool.not_eq_false, List.contains_iff_mem, List.mem_map] at this
    obtain ⟨z, hz1, hz2⟩ := this
    rw [← hinj z (hd z hz1) y hy hz2]
    exact hz1
  · simp only [hx, Sem.run_bind, hrun, Result.andThen_ok, Sem.run_pure]
    have hen' : en ∈ es.toList ∧ en ∉ done := by
      unfold leftOf at hen
      simp only [Array.toList_filter, List.mem_filter] at hen
      refine ⟨hen.1, fun hin => ?_⟩
      have := hen.2
      simp only [List.contains_toArray, Bool.not_eq_eq_eq_not, Bool.not_true, List.contains_eq_mem, decide_eq_false_iff_not, List.mem_map, not_exists, not_and] at this
      exact this en hin rfl
    have hpush : (done.map (fun e : MapEntry => e.born)).toArray.push en.born = ((done ++ [en]).map (fun e : MapEntry => e.born)).toArray := by simp
    rw [hpush] at hrun ⊢
    obtain ⟨l', hl'⟩ := Repl.of_mem (IterX r p clock ((done ++ [en]).map (fun e : MapEntry => e.born)).toArray clock) m2
    refine hK _ _ (h1 en hen'.1 hen'.2 l' hl' _ ?_ ?_)
    · have H1 : Heap W l w1 := by
        rcases hw1 with rfl | rfl
        · exact H
        · exact H.drew
      exact H1.upd hl' grown_setBlock (setBlock_at (H1.ok _ m2)) (.inl rfl)
    · intro w2 l2 H2 n1 n2
      refine run_entry_at w2 r p clock (done.map (fun e : MapEntry => e.born)).toArray es clock en ?_ (H2.ok _ n1) hen'.1 s2
      have := H2.ok _ n2
      rw [← hpush] at this
      exact this
/-- The same with one goal behind it. -/
theorem wpl_nextP {dst : Option Tmp} {ty : TypeId} {pos : String} {after : Array Edge} {guard : Option (Nat × Bool)} {x : Operand} {r p c0 : Nat} {es : Array MapEntry} {clock : Nat} {done : List MapEntry} {lf : MapEntry → List Thing} (hw : Region.wanted ⟨dst, .next x false, ty, pos, after, guard⟩ (yielded ops a.tmps) = true) (hx : a.eval x = .pointer (some ⟨r, 0, none⟩))
    (hst : MapKept.Stamped es clock) (hc : clock ≤ c0) (hd : ∀ y ∈ done, y ∈ es.toList) (hnd : done.Nodup) (H : Heap W l w) (m : MapX p es clock ∈ l) (m2 : IterX r p clock (done.map (fun e : MapEntry => e.born)).toArray c0 ∈ l)
    (hr : ∀ en : MapEntry, Repl l (IterX r p clock (done.map (fun e : MapEntry => e.born)).toArray c0) (IterX r p clock ((done ++ [en]).map (fun e : MapEntry => e.born)).toArray clock) (lf en))
    (h : (done.Perm es.toList → wpList Try.prog ops Q rest (a.put dst (.tuple #[.bool false])) w) ∧
      (∀ en ∈ es.toList, en ∉ done → ∀ w', Heap W (lf en) w' → (∀ w2 l2, Heap W l2 w2 → MapX p es clock ∈ l2 → IterX r p clock ((done ++ [en]).map (fun e : MapEntry => e.born)).toArray clock ∈ l2 → (Instr.entry (.pointer (some ⟨r, 0, none⟩))).run Try.prog w2 = .ok (.tuple #[en.key, en.val]) w2) → wpList Try.prog ops Q rest (a.put dst (.tuple #[.bool true, en.key, en.val])) w')) :
    wpList Try.prog ops Q (⟨dst, .next x false, ty, pos, after, guard⟩ :: rest) a w := by
  refine wpl_nextM hw hx hst hc hd hnd H m m2 h.1 fun en h1 h2 l' hl' w' H' he => ?_
  refine h.2 en h1 h2 w' (H'.perm ?_) he
  exact hl'.same (hr en)
theorem wpl_entryM {dst : Option Tmp} {ty : TypeId} {pos : String} {after : Array Edge} {guard : Option (Nat × Bool)} {x : Operand} {v u : Value} (hw : Region.wanted ⟨dst, .entry x, ty, pos, after, guard⟩ (yielded ops a.tmps) = true) (hx : a.eval x = v)
    (hr : (Instr.entry v).run Try.prog w = .ok u w) (h : wpList Try.prog ops Q rest (a.put dst u) w) : wpList Try.prog ops Q (⟨dst, .entry x, ty, pos, after, guard⟩ :: rest) a w := by
  refine BigFrame.wpList_want hw fun K hK => ?_
  unfold Oper.wp execOp
  simp only [hx, Sem.run_bind, hr, Result.andThen_ok, Sem.run_pure]
  exact hK _ _ h
end
end Go.Proofs.Ytacglcpjbepfnaa
