/- Part 1 of what ProofBooksPlay stands on: Bits, Base, Ext, Tail, Row, Heap, HeapMore, HeapOwn. -/
import Derived.WalkKit
import Derived.WalkSpells
import Derived.Handy
import Derived.Lib.Hide
import Derived.Laws.BytesArg
import Derived.Laws.BytesString
import Derived.Test.YtacglcpjbepfnaaProg
import Derived.Deep.QuietTactic
import Derived.BigQuiet
import Derived.StillTail
import Derived.Laws.Rows
import Derived.Laws.IdiomCopy
import Derived.Deep.MidRow
import Derived.Lib.SmallJoins
import Derived.Lib.AppendZeros
import Derived.Laws.MakeOwn
import Derived.Laws.OwnMore
import Derived.Lib.BufferMore
/- Numbers of 8 and 32 bits as the walk spells them: each bit operation on I8, I32 is the operation on bit vectors. -/
namespace Go.Proofs.Ytacglcpjbepfnaa
open Go.RowKit

def I32 (x : BitVec 32) : Int := x.toNat
def I8 (x : BitVec 8) : Int := x.toNat
/-- The cells from an address on (if there is one at all) hold these values. -/
def Rd (w : World) (a : Option Addr) (xs : List Value) : Prop := ∀ i (h : i < xs.length), ∃ b o, a = some ⟨b, o, none⟩ ∧ w.cell? ⟨b, o + i, none⟩ = some xs[i]
end Go.Proofs.Ytacglcpjbepfnaa

/- Slices as lists of cells: readable rows (Rd), rows in new memory (Own), and the laws by which append, make and slicing act on them. -/
namespace Go.Proofs.Ytacglcpjbepfnaa
open Go.RowKit
set_option linter.unusedVariables false
set_option linter.unusedSimpArgs false

theorem Rd.nil (w : World) (a : Option Addr) : Rd w a [] := fun i h => by simp at h
theorem Rd.lt {w : World} {a : Option Addr} {xs : List Value} (h : Rd w a xs) (hx : 0 < xs.length) : ∃ b o, a = some ⟨b, o, none⟩ ∧ b < w.heap.size := by
  obtain ⟨b, o, e, hc⟩ := h 0 hx
  exact ⟨b, o, e, by simpa using World.block_lt_of_cell? w _ hc⟩
theorem Rd.get {w : World} {b o : Nat} {sp : Option Nat} {xs : List Value} (h : Rd w (some ⟨b, o, sp⟩) xs) {i : Nat} (hi : i < xs.length) : w.cell? ⟨b, o + i, none⟩ = some xs[i] := by
  obtain ⟨b', o', e, hc⟩ := h i hi
  simp only [Option.some.injEq, Addr.mk.injEq] at e
  obtain ⟨rfl, rfl, _⟩ := e
  exact hc
theorem Rd.same {w w' : World} {a : Option Addr} {xs : List Value} (h : Rd w a xs) (hb : ∀ b o sp, a = some ⟨b, o, sp⟩ → w'.heap[b]? = w.heap[b]?) : Rd w' a xs := by
  intro i hi
  obtain ⟨b, o, e, hc⟩ := h i hi
  refine ⟨b, o, e, ?_⟩
  rw [World.cell?_of_block (w := w) (a := ⟨b, o + i, none⟩) (hb b o none e)]; exact hc
theorem Rd.blocks {w w' : World} {B : Nat} {a : Option Addr} {xs : List Value} (h : Rd w a xs) (hb : ∀ k, k < B → w'.heap[k]? = w.heap[k]?) (hB : ∀ b o sp, a = some ⟨b, o, sp⟩ → b < B) : Rd w' a xs :=
  h.same fun b o sp e => hb b (hB b o sp e)
/-- What could be read ahead of a call that writes nothing old can be read behind it. -/
theorem Rd.below {w w' : World} {a : Option Addr} {xs : List Value} (h : Rd w a xs) (hb : Below w.heap.size w w') : Rd w' a xs := by
  intro i hi
  obtain ⟨b, o, e, hc⟩ := h i hi
  refine ⟨b, o, e, ?_⟩
  have hlt : b < w.heap.size := by simpa using World.block_lt_of_cell? w _ hc
  rw [World.cell?_of_block (w := w) (a := ⟨b, o + i, none⟩) (hb.block b hlt)]; exact hc
theorem Rd.take {w : World} {a : Option Addr} {xs : List Value} (h : Rd w a xs) (n : Nat) : Rd w a (xs.take n) := by
  intro i hi
  have hi' : i < xs.length := by simp at hi; omega
  obtain ⟨b, o, e, hc⟩ := h i hi'
  exact ⟨b, o, e, by rw [hc]; simp⟩
theorem Rd.drop {w : World} {b o : Nat} {sp : Option Nat} {xs : List Value} (h : Rd w (some ⟨b, o, sp⟩) xs) (n : Nat) : Rd w (some ⟨b, o + n, none⟩) (xs.drop n) := by
  intro i hi
  have hi' : n + i < xs.length := by simp at hi; omega
  refine ⟨b, o + n, rfl, ?_⟩
  have := h.get hi'
  rw [show o + n + i = o + (n + i) by omega, this]; simp
/-- A block's own cells, from some place on. -/
theorem Rd.ofBlock {w : World} {g off : Nat} {cur : Array Value} {e : TypeId} {fz : Nat × Nat} (h : w.heap[g]? = some (.cells cur e fz)) (xs : List Value)
    (hx : ∀ i (hi : i < xs.length), cur[off + i]? = some xs[i]) : Rd w (some ⟨g, off, none⟩) xs := by
  intro i hi
  refine ⟨g, off, rfl, ?_⟩
  simp only [World.cell?, h]
  simpa using hx i hi

theorem Rd.lit (w : World) (cs : Array Value) (e : TypeId) (fz : Nat × Nat) : Rd (w.alloc (.cells cs e fz)) (some ⟨w.heap.size, 0, none⟩) cs.toList :=
  Rd.ofBlock (heap_alloc_new w _) _ (fun i hi => by simp at hi; simp [hi])
theorem Rd.alloc {w : World} {a : Option Addr} {xs : List Value} (h : Rd w a xs) (o : Obj) : Rd (w.alloc o) a xs := h.below ((Below.refl _ _).alloc (Nat.le_refl _) _)
theorem Rd.drew {w : World} {a : Option Addr} {xs : List Value} (h : Rd w a xs) : Rd w.drew a xs := h.below (Below.refl _ _).drew

/-- A row in memory from block 'base' on, that nobody froze: its values are xs. -/
def Own (w : World) (base : Nat) (e : TypeId) (size : Nat) (v : Value) (n : Nat) (xs : List Value) : Prop :=
  xs.length = n * size ∧ ((v = .slice none 0 0 ∧ n = 0) ∨
    ∃ g off cap cur, v = .slice (some ⟨g, off, none⟩) n cap ∧ base ≤ g ∧ w.heap[g]? = some (.cells cur e (0, 0)) ∧ n ≤ cap ∧ cap ≤ maxLen ∧ off + cap * size ≤ cur.size ∧ (cur.toList.drop off).take (n * size) = xs)

theorem Own.ofRow {w : World} {base : Nat} {e : TypeId} {size : Nat} {v : Value} {n : Nat} {xs : List Value} (h : w.ownsRow base e size v n xs) : Own w base e size v n xs := by
  refine ⟨h.1, ?_⟩
  rcases h.2 with h2 | ⟨g, cap, cur, r1, r2, r3, r4, r5, r6, r7⟩
  · exact .inl h2
  · exact .inr ⟨g, 0, cap, cur, r1, r2, r3, r4, r5, by omega, by simpa using r7⟩
theorem Own.rd {w : World} {base : Nat} {e : TypeId} {size : Nat} {v : Value} {n : Nat} {xs : List Value} (h : Own w base e size v n xs) :
    ∃ ao c, v = .slice ao n c ∧ Rd w ao xs ∧ n ≤ c ∧ c ≤ maxLen ∧ (∀ b o sp, ao = some ⟨b, o, sp⟩ → base ≤ b ∧ b < w.heap.size) := by
  rcases h.2 with ⟨rfl, rfl⟩ | ⟨g, off, cap, cur, rfl, hb, hg, hn, hm, hs, hx⟩
  · have := h.1
    simp at this
    subst this
    exact ⟨none, 0, rfl, Rd.nil _ _, Nat.le_refl _, by unfold maxLen; omega, fun b o sp e => by cases e⟩
  · have hl := h.1
    refine ⟨_, cap, rfl, Rd.ofBlock hg xs (fun i hi => ?_), hn, hm, fun b o sp e => ?_⟩
    · subst hx
      simp only [List.length_take, List.length_drop, Array.length_toList] at hi
      simp only [List.getElem_take, List.getElem_drop, Array.getElem_toList]
      rw [Array.getElem?_eq_getElem]
    · simp only [Option.some.injEq, Addr.mk.injEq] at e
      obtain ⟨rfl, _⟩ := e
      exact ⟨hb, (Array.getElem?_eq_some_iff.1 hg).1⟩
theorem Own.same {w w' : World} {base : Nat} {e : TypeId} {size : Nat} {v : Value} {n : Nat} {xs : List Value} (h : Own w base e size v n xs)
    (hk : ∀ k, v.ownBlock = some k → w'.heap[k]? = w.heap[k]?) : Own w' base e size v n xs := by
  refine ⟨h.1, ?_⟩
  rcases h.2 with h2 | ⟨g, off, cap, cur, rfl, hb, hg, r⟩
  · exact .inl h2
  · exact .inr ⟨g, off, cap, cur, rfl, hb, by rw [hk g rfl]; exact hg, r⟩
theorem Own.below {w w' : World} {base : Nat} {e : TypeId} {size : Nat} {v : Value} {n : Nat} {xs : List Value} (h : Own w base e size v n xs) (hb : Below w.heap.size w w') : Own w' base e size v n xs := by
  refine h.same fun k hk => ?_
  rcases h.2 with ⟨rfl, _⟩ | ⟨g, off, cap, cur, rfl, _, hg, _⟩
  · simp [Value.ownBlock] at hk
  · simp [Value.ownBlock] at hk
    subst hk
    exact hb.block _ (Array.getElem?_eq_some_iff.1 hg).1
theorem Own.mono {w : World} {base base' : Nat} {e : TypeId} {size : Nat} {v : Value} {n : Nat} {xs : List Value} (h : Own w base e size v n xs) (hb : base' ≤ base) : Own w base' e size v n xs := by
  refine ⟨h.1, ?_⟩
  rcases h.2 with h2 | ⟨g, off, cap, cur, r1, r2, r⟩
  · exact .inl h2
  · exact .inr ⟨g, off, cap, cur, r1, by omega, r⟩
/-- s[:len(s):len(s)] of a row. -/
theorem Own.clip {w : World} {base : Nat} {e : TypeId} {size : Nat} {ao : Option Addr} {n c : Nat} {xs : List Value} (h : Own w base e size (.slice ao n c) n xs) : Own w base e size (.slice ao n n) n xs := by
  refine ⟨h.1, ?_⟩
  rcases h.2 with ⟨e1, rfl⟩ | ⟨g, off, cap, cur, e1, r2, r3, r4, r5, r6, r7⟩
  · simp only [Value.slice.injEq] at e1
    exact .inl ⟨by rw [e1.1], rfl⟩
  · simp only [Value.slice.injEq, true_and] at e1
    obtain ⟨rfl, rfl⟩ := e1
    exact .inr ⟨g, off, n, cur, rfl, r2, r3, Nat.le_refl _, by omega, by have := Nat.mul_le_mul_right size r4; omega, r7⟩

/-- A store into one of the row's own cells. -/
theorem Own.set {w : World} {base : Nat} {e : TypeId} {size g off n c : Nat} {xs : List Value} (h : Own w base e size (.slice (some ⟨g, off, none⟩) n c) n xs) (j : Nat) (hj : j < n * size) (u : Value) :
    Own (w.setCell ⟨g, off + j, none⟩ u) base e size (.slice (some ⟨g, off, none⟩) n c) n (xs.set j u) := by
  refine ⟨by simpa using h.1, ?_⟩
  rcases h.2 with ⟨h', _⟩ | ⟨g', off', cap, cur, h', hb, hg, hn, hm, hs, hx⟩
  · simp at h'
  · simp only [Value.slice.injEq, Option.some.injEq, Addr.mk.injEq, and_true, true_and] at h'
    obtain ⟨⟨rfl, rfl⟩, rfl⟩ := h'
    refine .inr ⟨g, off, c, cur.setIfInBounds (off + j) u, rfl, hb, heap_setCell_same w g (off + j) cur e u hg, hn, hm, by simpa using hs, ?_⟩
    subst hx
    simp only [Array.toList_setIfInBounds]
    rw [List.drop_set, if_neg (by omega), show off + j - off = j by omega, List.take_set]
theorem Own.drewN {w : World} {base : Nat} {e : TypeId} {size : Nat} {v : Value} {n : Nat} {xs : List Value} (h : Own w base e size v n xs) : Own w.drew base e size v n xs := h.below (Below.refl _ _).drew
/-- What a slice type's row of the program's table says. -/
structure SlTy (P : Program) (t e size bytes : Nat) (z : Value) : Prop where
  und : P.underlying t = some (.slice e)
  inf : ∃ i, P.info? e = some i ∧ i.zero = some z ∧ i.size = size ∧ i.bytes = bytes
  zc : z.cells.size = size
  pos : 0 < size

theorem addr_add (b o j : Nat) : (⟨b, o, none⟩ : Addr).add j = ⟨b, o + j, none⟩ := by
  unfold Addr.add; split <;> simp_all

theorem Rd.addr {w : World} {a : Addr} {xs : List Value} (h : Rd w (some a) xs) : ∀ j v, xs[j]? = some v → w.cell? (a.add j) = some v := by
  intro j v hv
  obtain ⟨hj, rfl⟩ := List.getElem?_eq_some_iff.1 hv
  obtain ⟨b, o, e, hc⟩ := h j hj
  obtain rfl := Option.some.inj e
  rw [addr_add]; exact hc
/-- Behind an append the row lies where it lay, or in a new block. -/
theorem run_append_block {P : Program} (w : World) {t e size bytes : Nat} {z : Value} (T : SlTy P t e size bytes z) (ty : TypeId) (base : Nat)
    (v : Value) (n : Nat) (xs : List Value) (hown : w.ownsRow base e size v n xs) (a : Addr) (m c : Nat) (news : List Value) (hl : news.length = m * size) (hnews : ∀ j u, news[j]? = some u → w.cell? (a.add j) = some u) (h1 : ∀ u ∈ news, u.oneCell' = true)
    (h63 : n + m ≤ maxLen) (hbytes : (n + m) * bytes ≤ 140737488355328) :
    ∃ v' w', (Builtin.append_ #[t, t] ty #[v, .slice (some a) m c]).run P w = .ok v' w' ∧ (v'.ownBlock = v.ownBlock ∨ v'.ownBlock = some w.heap.size) := by
  obtain ⟨i, hi, hz, hsz, hb⟩ := T.inf
  subst hsz
  subst hb
  have hsmall : n + m ≤ 9223372036854775807 := by simp only [maxLen] at h63; omega
  rcases hown.2 with ⟨rfl, rfl⟩ | ⟨g, cap, cur, rfl, hbg, hg, hnc, hcm, hcs, htake⟩
  · by_cases hm : m = 0
    · subst hm
      have hn : news = [] := List.eq_nil_of_length_eq_zero (by simpa using hl)
      subst hn
      refine ⟨.slice none 0 0, w, ?_, .inl rfl⟩
      simp [Builtin.append_, run_underlying T.und, sizeOf, typeInfo, hi, Builtin.lenOf, Builtin.firstCells, loadCells, loadCellsFrom]
    · exact ⟨_, _, run_append_nil (P := P) w t ty e i z T.und hi hz a m c news hl hnews (by omega) (by omega) (by have hb := hbytes; simp only [Nat.zero_add] at hb; omega), .inr rfl⟩
  · by_cases hroom : n + m ≤ cap
    · have hfit : n * i.size + news.length ≤ cur.size := by rw [hl, hcs, ← Nat.add_mul]; exact Nat.mul_le_mul_right _ hroom
      exact ⟨_, _, run_append_room (P := P) w t ty e i T.und hi g n cap cur hg a m c news hl hnews h1 hroom hfit, .inl rfl⟩
    · have holds : ∀ j u, xs[j]? = some u → w.cell? ((⟨g, 0, none⟩ : Addr).add j) = some u := hown.cells (g := g) rfl
      exact ⟨_, _, run_append_grow (P := P) w t ty e i z T.und hi hz ⟨g, 0, none⟩ n cap xs hown.1 holds a m c news hl hnews (by omega) (by omega) (growslice_fits (by omega) hbytes), .inr rfl⟩
/-- append(s, x...), with the word on where the row lies then. -/
theorem wpl_appendB {P : Program} {w : World} {ops : Array Oper} {rest : List Oper} {o : Oper} {a : Act} {Q : Exit → Act → World → Prop} (hgd : o.guard = none) (s x : Operand) (t : TypeId)
    (ho : o.op = .call { callee := .builtin .append, args := #[s, x], argTypes := #[t, t] })
    {e size bytes : Nat} {z : Value} (T : SlTy P t e size bytes z) (base : Nat)
    (v : Value) (n : Nat) (xs : List Value) (hs : a.eval s = v) (hown : w.ownsRow base e size v n xs)
    (b off m c : Nat) (news : List Value) (hx : a.eval x = .slice (some ⟨b, off, none⟩) m c) (hl : news.length = m * size) (hrd : Rd w (some ⟨b, off, none⟩) news) (h1 : ∀ u ∈ news, u.oneCell' = true)
    (h63 : n + m ≤ maxLen) (hbytes : (n + m) * bytes ≤ 140737488355328) (hbase : base ≤ w.heap.size)
    (h : ∀ v' w', w'.ownsRow base e size v' (n + m) (xs ++ news) → w.grownBy w' v.ownBlock → (v'.ownBlock = v.ownBlock ∨ v'.ownBlock = some w.heap.size) → wpList P ops Q rest (a.put o.dst v') w') : wpList P ops Q (o :: rest) a w := by
  obtain ⟨i, hi, hz, hsz, hb⟩ := T.inf
  have hnews := hrd.addr
  obtain ⟨v1, w1, hr1, hbl⟩ := run_append_block w T o.type base v n xs hown ⟨b, off, none⟩ m c news hl hnews h1 h63 hbytes
  obtain ⟨v', w', hr, h2, h3, h4⟩ := run_append_own (P := P) w base t o.type e i z size bytes T.und hi hz hsz hb T.zc T.pos v n xs hown ⟨b, off, none⟩ m c news hl hnews h1 h63 hbytes hbase
  rw [hr1] at hr
  simp only [Result.ok.injEq] at hr
  obtain ⟨rfl, rfl⟩ := hr
  refine wpList_plain hgd fun K hK => ?_
  unfold Oper.wp execOp
  simp only [ho, resolve, invoke, builtin, Sem.run_bind, Sem.run_pure, Result.andThen_ok, List.map_toArray, List.map_cons, List.map_nil, hs, hx, hr1]
  exact hK _ _ (h _ _ h2 h3 hbl)

/-- Where s[lo:hi] begins. -/
def cutA (a : Option Addr) (cap lo size : Nat) : Option Addr := if cap = lo then a else a.map (fun x => x.add (lo * size))
theorem Rd.cutA {w : World} {a : Option Addr} {xs : List Value} (h : Rd w a xs) (cap lo hi size : Nat) (hh : hi ≤ cap) : Rd w (cutA a cap lo size) ((xs.drop (lo * size)).take ((hi - lo) * size)) := by
  unfold Proofs.Ytacglcpjbepfnaa.cutA
  split
  · rename_i hc
    subst hc
    rw [show hi - cap = 0 by omega]
    simpa using Rd.nil _ _
  · refine Rd.take ?_ _
    intro i hi
    have hi' : lo * size + i < xs.length := by simp at hi; omega
    obtain ⟨b, o, rfl, hc⟩ := h (lo * size + i) hi'
    exact ⟨b, o + lo * size, by simp [addr_add], by rw [Nat.add_assoc, hc]; simp⟩
theorem run_cut {P : Program} {t e size bytes : Nat} {z : Value} (T : SlTy P t e size bytes z) (a : Option Addr) (len cap lo hi : Nat) (k1 k2 : IntKind) (h1 : lo ≤ hi) (h2 : hi ≤ cap) (w : World) :
    (Instr.slice t (.slice a len cap) (some (.int k1 (lo : Int))) (some (.int k2 (hi : Int))) none).run P w = .ok (.slice (cutA a cap lo size) (hi - lo) (cap - lo)) w := by
  obtain ⟨i, hi', hz, hs, hb⟩ := T.inf
  simp [Instr.slice, Instr.sliceBounds, Instr.sliceBound, run_underlying T.und, asIntOf, sizeOf, typeInfo, hi', hs, cutA, h1, h2, go_sem]
theorem run_cutTo {P : Program} {t e size bytes : Nat} {z : Value} (T : SlTy P t e size bytes z) (a : Option Addr) (len cap hi : Nat) (k2 : IntKind) (h2 : hi ≤ cap) (w : World) :
    (Instr.slice t (.slice a len cap) none (some (.int k2 (hi : Int))) none).run P w = .ok (.slice a hi cap) w := by
  obtain ⟨i, hi', hz, hs, hb⟩ := T.inf
  simp [Instr.slice, Instr.sliceBounds, Instr.sliceBound, run_underlying T.und, asIntOf, sizeOf, typeInfo, hi', h2, go_sem]
theorem run_cutFrom {P : Program} {t e size bytes : Nat} {z : Value} (T : SlTy P t e size bytes z) (a : Option Addr) (len cap lo : Nat) (k1 : IntKind) (h1 : lo ≤ len) (w : World) :
    (Instr.slice t (.slice a len cap) (some (.int k1 (lo : Int))) none none).run P w = .ok (.slice (cutA a cap lo size) (len - lo) (cap - lo)) w := by
  obtain ⟨i, hi', hz, hs, hb⟩ := T.inf
  simp [Instr.slice, Instr.sliceBounds, Instr.sliceBound, run_underlying T.und, asIntOf, sizeOf, typeInfo, hi', hs, cutA, h1, go_sem]

end Go.Proofs.Ytacglcpjbepfnaa

/- Worlds that grow: 'w.ext d' is a world behind w in which nothing of w has changed; calls and regions that only make memory leave such a world, and cells are read through it. -/
namespace Go.Proofs.Ytacglcpjbepfnaa
open Go.RowKit

open Classical in
/-- w, grown to d where d is w grown; else w itself. -/
noncomputable def World.ext (w d : World) : World := if Below w.heap.size w d then d else w
theorem ext_below (w d : World) : Below w.heap.size w (World.ext w d) := by
  unfold World.ext
  split
  · assumption
  · exact Below.refl _ _
theorem ext_of {w w' : World} (h : Below w.heap.size w w') : ∃ d, w' = World.ext w d := ⟨w', by unfold World.ext; rw [if_pos h]⟩
theorem ext_size (w d : World) : w.heap.size ≤ (World.ext w d).heap.size := (ext_below w d).size
theorem ext_block (w d : World) {k : Nat} (h : k < w.heap.size) : (World.ext w d).heap[k]? = w.heap[k]? := (ext_below w d).block k h
/-- How many blocks were made on the way from w. -/
noncomputable def World.extN (w d : World) : Nat := (World.ext w d).heap.size - w.heap.size
@[go_sem high] theorem size_ext (w d : World) : (World.ext w d).heap.size = w.heap.size + World.extN w d := by
  have := ext_size w d; unfold World.extN; omega
noncomputable def World.extCell (w d : World) (a : Addr) : Option Value := (World.ext w d).cell? a
noncomputable def World.extFrozen (w d : World) (a : Addr) : Bool := (World.ext w d).frozen? a
@[go_sem high] theorem ext_cell (w d : World) (n i : Nat) (s : Option Nat) : (World.ext w d).cell? ⟨n, i, s⟩ = if n < w.heap.size then w.cell? ⟨n, i, s⟩ else World.extCell w d ⟨n, i, s⟩ := by
  split
  · rename_i h; exact (ext_below w d).cell (p := ⟨n, i, s⟩) h
  · rfl
@[go_sem high] theorem ext_frozen (w d : World) (n i : Nat) (s : Option Nat) : (World.ext w d).frozen? ⟨n, i, s⟩ = if n < w.heap.size then w.frozen? ⟨n, i, s⟩ else World.extFrozen w d ⟨n, i, s⟩ := by
  split
  · rename_i h; exact (ext_below w d).frozen (p := ⟨n, i, s⟩) h
  · rfl
@[go_sem high] theorem alloc_cell (w : World) (c : Array Value) (t : TypeId) (f : Nat × Nat) (n i : Nat) : (w.alloc (.cells c t f)).cell? ⟨n, i, none⟩ = if n = w.heap.size then c[i]? else w.cell? ⟨n, i, none⟩ := by
  split
  · rename_i h
    subst h
    simp only [World.cell?, heap_alloc_new]
    simp
  · rename_i h; exact World.cell?_alloc_old _ _ _ h
@[go_sem high] theorem alloc_frozen (w : World) (c : Array Value) (t : TypeId) (n i : Nat) : (w.alloc (.cells c t)).frozen? ⟨n, i, none⟩ = if n = w.heap.size then false else w.frozen? ⟨n, i, none⟩ := by
  split
  · rename_i h
    subst h
    exact frozen_of_row _ _ _ _ _ (heap_alloc_new w _)
  · rename_i h; exact World.frozen?_alloc_old _ _ _ h

/-- Nothing of w has changed in w'. -/
def Ext (w w' : World) : Prop := Below w.heap.size w w'
theorem Ext.refl (w : World) : Ext w w := Below.refl _ _
theorem Ext.alloc {w w' : World} (h : Ext w w') (o : Obj) : Ext w (w'.alloc o) := Below.alloc h (Below.size h) o
theorem Ext.drew {w w' : World} (h : Ext w w') : Ext w w'.drew := Below.drew h
theorem Ext.drewN {w w' : World} (h : Ext w w') (n : Nat) : Ext w (w'.drewN n) := ⟨h.os, h.tape, h.output, h.size, h.block⟩
theorem Ext.trans {a b c : World} (h : Ext a b) (k : Ext b c) : Ext a c := Below.trans h (Below.mono k (Below.size h))
theorem Ext.ext {w w' : World} (h : Ext w w') (d : World) : Ext w (World.ext w' d) := h.trans (ext_below w' d)
theorem Ext.setCell {w w' : World} (h : Ext w w') {p : Addr} (hp : w.heap.size ≤ p.block) (u : Value) : Ext w (w'.setCell p u) := Below.setCell h hp u
theorem Ext.out {w w' : World} (h : Ext w w') : ∃ d, w' = World.ext w d := ext_of h
theorem Ext.rd {w w' : World} {a : Option Addr} {xs : List Value} (h : Ext w w') (k : Rd w a xs) : Rd w' a xs := k.below h

/-- A callee that only makes memory, met in the midst of a region. -/
theorem Calls.ext_of {P : Program} {f : FuncId} {args : Array Value} {W d : World} {v : Value}
    (h : Calls P f args (World.ext W d) fun e w' => e = .returned v ∧ Below (World.ext W d).heap.size (World.ext W d) w') : Calls P f args (World.ext W d) fun e w'' => e = .returned v ∧ ∃ m, w'' = World.ext W m :=
  h.mono fun _ _ ⟨he, hb⟩ => ⟨he, _root_.Go.Proofs.Ytacglcpjbepfnaa.ext_of (((Ext.refl W).ext d).trans hb)⟩
/-- A region that draws its order, walked once in the order of the text, in whatever world behind W. -/
theorem wp_region_ext {P : Program} {id : Nat} {Q : Exit → Act → World → Prop} {a : Act} {W : World} {l : List Oper} (hm : P.follows .mixedOrders = true) (hB : Region.lexB .any l.toArray = true)
    (h : wpQuiet P l.toArray (fun w' => ∃ d, w' = World.ext W d) (fun a' => ∀ w', (∃ d, w' = World.ext W d) → Q .normal a' w') l a) : (Code.region id l.toArray true).wp P Q a W :=
  wp_region_quiet (C := fun w' => ∃ d, w' = World.ext W d) hm hB (ext_of (Below.refl _ _).drew) (by simpa using h)

/-- Called with these arguments, in whatever world, it answers v and only makes memory. -/
def Ans (f : FuncId) (args : Array Value) (v : Value) : Prop := ∀ w, Calls Try.prog f args w fun e w' => e = .returned v ∧ Below w.heap.size w w'
theorem Ans.same {f : FuncId} {args : Array Value} {v : Value} (h : ∀ w, Calls Try.prog f args w fun e w' => e = .returned v ∧ w' = w) : Ans f args v := fun w => (h w).mono fun _ _ ⟨he, hw⟩ => ⟨he, hw ▸ Below.refl _ _⟩
theorem Ans.to {f : FuncId} {args : Array Value} {v v' : Value} (h : Ans f args v) (e : v = v') : Ans f args v' := e ▸ h
theorem Ans.call {f : FuncId} {args : Array Value} {v : Value} {w : World} {R : Ending → World → Prop} (h : Ans f args v) (k : ∀ d, R (.returned v) (World.ext w d)) : Calls Try.prog f args w R :=
  (h w).mono fun e w' ⟨he, hb⟩ => by obtain ⟨d, rfl⟩ := ext_of hb; rw [he]; exact k d
theorem Ans.quiet {f : FuncId} {args : Array Value} {v : Value} {W d : World} (h : Ans f args v) : Calls Try.prog f args (World.ext W d) fun e w'' => e = .returned v ∧ ∃ m, w'' = World.ext W m := Calls.ext_of (h _)
end Go.Proofs.Ytacglcpjbepfnaa

/- A region that draws its order, whose first n operations only read or call what only makes memory, and whose last ones come in one order, behind all others: one walk in the order of the text. -/
namespace Go.Proofs.Ytacglcpjbepfnaa
open Go.RowKit

section
variable {P : Program} {ops : Array Oper} {md : Region.Mode} {C : World → Prop}
/-- The first n operations in whatever order, then L. -/
def HeadAny (P : Program) (md : Region.Mode) (ops : Array Oper) (C : World → Prop) (n : Nat) (L : Array Bool → Act → Prop) : Nat → Array Bool → Act → Prop
  | 0, listed, a => L listed a
  | f + 1, listed, a => Region.ready md ops listed ≠ [] ∧ ∀ i ∈ Region.ready md ops listed, i < n ∧ qOp P ops C i (HeadAny P md ops C n L f (listed.setIfInBounds i true)) a
theorem HeadAny.any {n g : Nat} {L : Array Bool → Act → Prop} {Q : Exit → Act → World → Prop} (hL : ∀ listed a w, C w → L listed a → wpAny P md ops Q g listed a w) :
    ∀ (f : Nat) (listed : Array Bool) (a : Act) (w : World), C w → HeadAny P md ops C n L f listed a → wpAny P md ops Q (f + g) listed a w := by
  intro f
  induction f with
  | zero => intro listed a w hw h; rw [Nat.zero_add]; exact hL _ _ _ hw h
  | succ f ih =>
    intro listed a w hw h
    rw [show f + 1 + g = (f + g) + 1 by omega]
    exact ⟨fun h0 => absurd h0 h.1, fun i hi => wpOp_of_qOp hw (fun a' w' hw' h' => ih _ a' w' hw' h') (h.2 i hi).2⟩
theorem HeadAny.first {n i : Nat} {oi : Oper} {v : Value} {L : Array Bool → Act → Prop} (hi : ops[i]? = some oi) (hsel : ∀ (j : Nat) (o : Oper) cs b, ops[j]? = some o → o.op ≠ .select cs b)
    (hs : Region.sinkB md ops n = true) (hc : Region.chainB md ops n = true) (hn : n < ops.size) (hin : i < n) (hdone : ∀ listed a, L listed a → ∀ j ∈ Region.ready md ops listed, n ≤ j) :
    ∀ (f : Nat) (listed : Array Bool) (a : Act), HeadInv md ops n listed →
      (∀ j oj, ops[j]? = some oj → j ≠ i → listed.getD j true = false → (∀ e ∈ oj.after, Region.binds md e = true → e.on ≠ i) → oi.apart ops oj = true) →
      i ∈ Region.ready md ops listed → YieldsIn P ops C oi v a → HeadAny P md ops C n L f (listed.setIfInBounds i true) (a.put oi.dst v) → HeadAny P md ops C n L (f + 1) listed a := by
  intro f
  induction f with
  | zero =>
    intro listed a inv _ hr hy H
    refine ⟨fun h => by rw [h] at hr; simp at hr, fun j hj => ?_⟩
    have hjn : j < n := Nat.lt_of_not_le fun h => tail_waits hs hc hn inv _ i rfl hin (mem_ready.1 hr).1 j h hj
    refine ⟨hjn, ?_⟩
    by_cases e : j = i
    · subst e; exact hy.qOp hi H
    · have := hdone _ _ H j (ready_mono hj e)
      omega
  | succ f ih =>
    intro listed a inv hfree hr hy H
    have hun := (mem_ready.1 hr).1
    refine ⟨fun h => by rw [h] at hr; simp at hr, fun j hj => ?_⟩
    have hjn : j < n := Nat.lt_of_not_le fun h => tail_waits hs hc hn inv _ i rfl hin hun j h hj
    refine ⟨hjn, ?_⟩
    by_cases e : j = i
    · subst e; exact hy.qOp hi H
    · obtain ⟨hjun, oj, hoj, hall⟩ := mem_ready.1 hj
      have hnot : ∀ e ∈ oj.after, Region.binds md e = true → e.on ≠ i := fun e he hb heq => by
        have := hall e he hb
        rw [heq, getD_both hun] at this
        cases this
      refine qOp_mono (fun a' h3 => ih (listed.setIfInBounds j true) a' (inv.set hj hjn) (fun k ok hk hki hun' hno => ?_) (ready_mono hr (Ne.symm e)) h3.1 ?_)
        (qOp_put hoj (hfree j oj hoj e hjun hnot) (fun cs b => hsel i oi cs b hi) (fun cs b => hsel j oj cs b hoj) hy (H.2 j (ready_mono hj e)).2)
      · refine hfree k ok hk hki ?_ hno
        by_cases hjk : j = k
        · subst hjk; exact hjun
        · rwa [getD_set_ne true hjk] at hun'
      · rw [Array.setIfInBounds_comm _ _ e]; exact h3.2
theorem HeadAny.lex {n g : Nat} {K : Act → Prop} (hsel : Region.noSelect ops = true) (hs : Region.sinkB md ops n = true) (hc : Region.chainB md ops n = true) (hn : n < ops.size) :
    ∀ (l : List Oper) (k : Nat) (listed : Array Bool) (a : Act), (∀ j, j < l.length → l[j]? = ops[k + j]?) → k + l.length = n → HeadInv md ops n listed →
    Region.lexHead md ops g l.length k listed = true → wpQuiet P ops C K l a → HeadAny P md ops C n (fun listed' a' => Region.seqB md ops g n listed' = true ∧ K a') l.length listed a := by
  intro l
  induction l with
  | nil =>
    intro k listed a _ hk _ hB h
    obtain rfl : k = n := by simpa using hk
    exact ⟨by simpa [Region.lexHead] using hB, h⟩
  | cons o l ih =>
    intro k listed a hl hk inv hB h
    have h0 : ops[k]? = some o := by simpa using (hl 0 (by simp)).symm
    simp only [List.length_cons, Region.lexHead, Bool.and_eq_true] at hB
    have hkn : k < n := by simp only [List.length_cons] at hk; omega
    have hr : k ∈ Region.ready md ops listed := by simpa using hB.1.1
    obtain ⟨v, hy, hK⟩ := yieldsIn_of_qOp h0 (show qOp P ops C k (wpQuiet P ops C K l) a by unfold qOp; simp only [h0]; exact h)
    exact HeadAny.first h0 (Region.noSelect_spec hsel) hs hc hn hkn (fun _ _ hL => seqB_ready hL.1) l.length listed a inv (Region.free_spec h0 hB.1.2) hr hy
      (ih (k + 1) _ _ (fun j hj => by have := hl (j + 1) (by simp; omega); simpa [Nat.add_assoc, Nat.add_comm 1 j] using this) (by simp only [List.length_cons] at hk; omega) (inv.set hr hkn) hB.2 hK)
/-- The walk: the first n operations quiet in C, the others one behind the other in whatever world of C. -/
theorem wp_region_tail {id : Nat} {Q : Exit → Act → World → Prop} {a : Act} {w : World} {l : List Oper} (n : Nat) (hm : P.follows .mixedOrders = true) (hB : Region.lexTailB .any l.toArray n = true) (hC : C { w with drawn := w.drawn + 1 })
    (h : wpQuiet P l.toArray C (fun a' => ∀ w', C w' → wpList P l.toArray Q (l.drop n) a' w') (l.take n) a) : (Code.region id l.toArray true).wp P Q a w := by
  simp only [Region.lexTailB, Bool.and_eq_true, decide_eq_true_eq] at hB
  obtain ⟨⟨⟨⟨hsel, hn⟩, hs⟩, hc⟩, hlex⟩ := hB
  have hn' : n < l.length := by simpa using hn
  have htl : (l.take n).length = n := by simp; omega
  have hdl : (l.drop n).length = l.toArray.size - n := by simp
  have H := HeadAny.lex (C := C) (md := .any) (g := l.toArray.size - n) hsel hs hc hn (l.take n) 0 (Array.replicate l.toArray.size false) a (fun j hj => by
    have hj' : j < n := by rw [htl] at hj; exact hj
    simp [hj']) (by simpa using htl) ⟨by simp, fun j oj _ hl => (by rw [getD_replicate_false] at hl; cases hl), fun t _ ht => getD_in (by simpa using ht) (getD_replicate_false _ _)⟩ (by rw [htl]; exact hlex) h
  refine wp_region_any hm ?_
  have := HeadAny.any (Q := Q) (g := l.toArray.size - n) (fun listed a' w' hw' hL => by
    have := wpAny_of_seq (md := .any) (Q' := Q) (l.drop n) n listed a' w' (fun j => by simp [List.getElem?_drop]) (by rw [hdl]; exact hL.1) (hL.2 w' hw')
    rwa [hdl] at this) _ _ _ _ hC H
  rwa [htl, show n + (l.toArray.size - n) = l.toArray.size by omega] at this
end
theorem wp_region_ext_tail {P : Program} {id : Nat} {Q : Exit → Act → World → Prop} {a : Act} {W : World} {l : List Oper} (n : Nat) (hm : P.follows .mixedOrders = true) (hB : Region.lexTailB .any l.toArray n = true)
    (h : wpQuiet P l.toArray (fun w' => ∃ d, w' = World.ext W d) (fun a' => ∀ w', (∃ d, w' = World.ext W d) → wpList P l.toArray Q (l.drop n) a' w') (l.take n) a) : (Code.region id l.toArray true).wp P Q a W :=
  wp_region_tail (C := fun w' => ∃ d, w' = World.ext W d) n hm hB (ext_of (Below.refl _ _).drew) h
end Go.Proofs.Ytacglcpjbepfnaa

/- Blocks known whole, and arrays by value: they are loaded, stored and made as one thing, with no look at their cells. -/
namespace Go.Proofs.Ytacglcpjbepfnaa
open Go.RowKit

theorem heapAlloc (w : World) (o : Obj) : (w.alloc o).heap = w.heap.push o := rfl
def blk (w : World) (n : Nat) : Option Obj := w.heap[n]?
noncomputable def extBlk (w d : World) (n : Nat) : Option Obj := blk (World.ext w d) n
@[go_sem high] theorem blk_alloc (w : World) (o : Obj) (n : Nat) : blk (w.alloc o) n = if n = w.heap.size then some o else blk w n := by
  unfold blk
  split
  · rename_i h; subst h; exact heap_alloc_new w o
  · rename_i h
    show (w.heap.push o)[n]? = _
    rw [Array.getElem?_push, if_neg h]
@[go_sem high] theorem blk_ext (w d : World) (n : Nat) : blk (World.ext w d) n = if n < w.heap.size then blk w n else extBlk w d n := by
  split
  · rename_i h; exact ext_block w d h
  · rfl
@[go_sem high] theorem blk_drew (w : World) (n : Nat) : blk w.drew n = blk w n := rfl

/-- The block's contents are c now. -/
def setBlk (w : World) (n : Nat) (c : Array Value) : World := { w with heap := w.heap.modify n fun | .cells _ t f => .cells c t f | o => o }
noncomputable def extSetBlk (w d : World) (n : Nat) (c : Array Value) : World := setBlk (World.ext w d) n c
noncomputable def extSet (w d : World) (p : Addr) (v : Value) : World := (World.ext w d).setCell p v
@[go_sem high] theorem size_setBlk (w : World) (n : Nat) (c : Array Value) : (setBlk w n c).heap.size = w.heap.size := by simp [setBlk]
theorem setBlk_block (w : World) (n : Nat) (c : Array Value) (k : Nat) (h : k ≠ n) : (setBlk w n c).heap[k]? = w.heap[k]? := by
  simp only [setBlk, Array.getElem?_modify]; rw [if_neg (by omega)]
theorem setBlk_same (w : World) (n : Nat) (c c0 : Array Value) (t : TypeId) (f : Nat × Nat) (h : w.heap[n]? = some (.cells c0 t f)) : (setBlk w n c).heap[n]? = some (.cells c t f) := by
  simp only [setBlk, Array.getElem?_modify, h]; rfl
theorem World.eq_of {w w' : World} (h1 : w.heap = w'.heap) (h2 : w.tape = w'.tape) (h3 : w.drawn = w'.drawn) (h4 : w.os = w'.os) (h5 : w.output = w'.output) : w = w' := by
  cases w; cases w'; simp_all
@[go_sem high] theorem alloc_setBlk (w : World) (c0 : Array Value) (t : TypeId) (f : Nat × Nat) (n : Nat) (c : Array Value) :
    setBlk (w.alloc (.cells c0 t f)) n c = if n = w.heap.size then w.alloc (.cells c t f) else (setBlk w n c).alloc (.cells c0 t f) := by
  split
  · rename_i h
    subst h
    refine World.eq_of ?_ rfl rfl rfl rfl
    simp only [setBlk, heapAlloc]
    apply Array.ext_getElem?
    intro i
    rw [Array.getElem?_modify, Array.getElem?_push, Array.getElem?_push]
    by_cases e : i = w.heap.size
    · subst e; simp
    · rw [if_neg (by omega), if_neg e, if_neg e]
  · rename_i h
    refine World.eq_of ?_ rfl rfl rfl rfl
    simp only [setBlk, heapAlloc]
    apply Array.ext_getElem?
    intro i
    rw [Array.getElem?_modify, Array.getElem?_push, Array.getElem?_push, Array.getElem?_modify, Array.size_modify]
    by_cases e : i = w.heap.size
    · rw [if_pos e, if_pos e, if_neg (by omega)]
    · rw [if_neg e, if_neg e]
theorem ext_self {w d : World} (h : Below w.heap.size w d) : World.ext w d = d := by unfold World.ext; rw [if_pos h]
theorem below_setBlk {w d : World} {n : Nat} (c : Array Value) : Below (setBlk w n c).heap.size (setBlk w n c) (setBlk (World.ext w d) n c) := by
  have hb := ext_below w d
  refine ⟨hb.os, hb.tape, hb.output, by rw [size_setBlk, size_setBlk]; exact hb.size, fun k hk => ?_⟩
  rw [size_setBlk] at hk
  have hk' := hb.block k hk
  simp only [setBlk, Array.getElem?_modify, hk']
@[go_sem high] theorem ext_setBlk (w d : World) (n : Nat) (c : Array Value) : setBlk (World.ext w d) n c = if n < w.heap.size then World.ext (setBlk w n c) (extSetBlk w d n c) else extSetBlk w d n c := by
  split
  · exact (ext_self (below_setBlk c)).symm
  · rfl
theorem below_setCell {w d : World} {p : Addr} (v : Value) : Below (w.setCell p v).heap.size (w.setCell p v) ((World.ext w d).setCell p v) := by
  have hb := ext_below w d
  refine ⟨hb.os, hb.tape, hb.output, by simpa using hb.size, fun k hk => ?_⟩
  have hk' := hb.block k (by simpa using hk)
  simp only [World.setCell, Array.getElem?_modify, hk']
@[go_sem high] theorem ext_setCell (w d : World) (n i : Nat) (s : Option Nat) (v : Value) : (World.ext w d).setCell ⟨n, i, s⟩ v = if n < w.heap.size then World.ext (w.setCell ⟨n, i, s⟩ v) (extSet w d ⟨n, i, s⟩ v) else extSet w d ⟨n, i, s⟩ v := by
  split
  · exact (ext_self (below_setCell (p := ⟨n, i, s⟩) v)).symm
  · rfl
@[go_sem high] theorem alloc_setCell (w : World) (c : Array Value) (t : TypeId) (f : Nat × Nat) (n i : Nat) (v : Value) :
    (w.alloc (.cells c t f)).setCell ⟨n, i, none⟩ v = if n = w.heap.size then w.alloc (.cells (c.setIfInBounds i v) t f) else (w.setCell ⟨n, i, none⟩ v).alloc (.cells c t f) := by
  split
  · rename_i h
    subst h
    refine World.eq_of ?_ rfl rfl rfl rfl
    simp only [World.setCell, heapAlloc]
    apply Array.ext_getElem?
    intro j
    rw [Array.getElem?_modify, Array.getElem?_push, Array.getElem?_push]
    by_cases e : j = w.heap.size
    · subst e; simp
    · rw [if_neg (fun h => e h.symm), if_neg e, if_neg e]
  · rename_i h
    refine World.eq_of ?_ rfl rfl rfl rfl
    simp only [World.setCell, heapAlloc]
    apply Array.ext_getElem?
    intro j
    rw [Array.getElem?_modify, Array.getElem?_push, Array.getElem?_push, Array.getElem?_modify, Array.size_modify]
    by_cases e : j = w.heap.size
    · rw [if_pos e, if_pos e, if_neg (by omega)]
    · rw [if_neg e, if_neg e]

theorem blk_here {w : World} {o : Obj} {n : Nat} (h : n = w.heap.size) : blk (w.alloc o) n = some o := by rw [blk_alloc, if_pos h]
theorem blk_lt {w : World} {n : Nat} {o : Obj} (h : blk w n = some o) : n < w.heap.size := (Array.getElem?_eq_some_iff.1 h).1
theorem blk_past {w : World} {o o' : Obj} {n : Nat} (h : blk w n = some o') : blk (w.alloc o) n = some o' := by
  rw [blk_alloc, if_neg (by have := blk_lt h; omega), h]
theorem blk_extS {w d : World} {n : Nat} {o : Obj} (h : blk w n = some o) : blk (World.ext w d) n = some o := by
  rw [blk_ext, if_pos (blk_lt h), h]
theorem blk_drewS {w : World} {n : Nat} {o : Obj} (h : blk w n = some o) : blk w.drew n = some o := h
/-- Block n is there, and with c in it w is w'. -/
def SetTo (w : World) (n : Nat) (c : Array Value) (w' : World) : Prop := (∃ o, blk w n = some o) ∧ setBlk w n c = w'
theorem SetTo.here {w : World} {c0 : Array Value} {t : TypeId} {f : Nat × Nat} {n : Nat} {c : Array Value} (h : n = w.heap.size) : SetTo (w.alloc (.cells c0 t f)) n c (w.alloc (.cells c t f)) :=
  ⟨⟨_, blk_here h⟩, by rw [alloc_setBlk, if_pos h]⟩
theorem SetTo.past {w w' : World} {c0 : Array Value} {t : TypeId} {f : Nat × Nat} {n : Nat} {c : Array Value} (h : SetTo w n c w') : SetTo (w.alloc (.cells c0 t f)) n c (w'.alloc (.cells c0 t f)) := by
  obtain ⟨⟨o, ho⟩, h2⟩ := h
  exact ⟨⟨o, blk_past ho⟩, by rw [alloc_setBlk, if_neg (by have := blk_lt ho; omega), h2]⟩
theorem SetTo.ext {w w' d : World} {n : Nat} {c : Array Value} (h : SetTo w n c w') : SetTo (World.ext w d) n c (World.ext w' (extSetBlk w d n c)) := by
  obtain ⟨⟨o, ho⟩, h2⟩ := h
  exact ⟨⟨o, blk_extS ho⟩, by rw [ext_setBlk, if_pos (blk_lt ho), h2]⟩
theorem SetTo.drew {w w' : World} {n : Nat} {c : Array Value} (h : SetTo w n c w') : SetTo w.drew n c w'.drew := ⟨h.1, by rw [← h.2]; rfl⟩

/-- A type whose values are rows of n cells; z: its zero. -/
structure RowTy (T n : Nat) (z : Array Value) : Prop where
  und : ∃ d, Try.prog.underlying T = some d ∧ d.isRow = true
  size : (Try.prog.info? T).map (·.size) = some n
  zero : (Try.prog.info? T).bind (·.zero) = some (.agg z)
/-- n cells of one place each. -/
def Cells (n : Nat) (c : Array Value) : Prop := c.size = n ∧ c.all (·.oneCell') = true

section
variable {ops : Array Oper} {rest : List Oper} {o : Oper} {a : Act} {w : World} {Q : Exit → Act → World → Prop} {T n : Nat} {z : Array Value}
theorem wpl_loadR {dst : Option Tmp} {ty : TypeId} {pos : String} {after : Array Edge} {guard : Option (Nat × Bool)} {x : Operand} {b off : Nat} (RT : RowTy T n z) (hw : Region.wanted ⟨dst, .load T x, ty, pos, after, guard⟩ (yielded ops a.tmps) = true) (hx : a.eval x = .pointer (some ⟨b, off, none⟩))
    {c c1 : Array Value} {t : TypeId} {f : Nat × Nat} (hb : blk w b = some (.cells c t f)) (hn : off + n ≤ c.size) (he : c.extract off (off + n) = c1)
    (h : wpList Try.prog ops Q rest (a.put dst (.agg c1)) w) : wpList Try.prog ops Q (⟨dst, .load T x, ty, pos, after, guard⟩ :: rest) a w := by
  obtain ⟨d, hu, hd⟩ := RT.und
  subst he
  exact BigFrame.wpList_want hw fun K hK => wp_load_mid T x rfl b off hx (c.extract off (off + n)).toList d (World.rangeAt_of_block hb off n) hu hd (by rw [RT.size]; simp; omega) (hK _ _ (by rw [Array.toArray_toList]; exact h))
theorem run_loadR (RT : RowTy T n z) {w : World} {b off : Nat} {c : Array Value} {t : TypeId} {f : Nat × Nat} (hb : w.heap[b]? = some (.cells c t f)) (hn : off + n ≤ c.size) :
    (Instr.loadAt T (.pointer (some ⟨b, off, none⟩))).run Try.prog w = .ok (.agg (c.extract off (off + n))) w := by
  obtain ⟨d, hu, hd⟩ := RT.und
  have := run_loadAt_mid (P := Try.prog) w b off T (c.extract off (off + n)).toList d (World.rangeAt_of_block hb off n) hu hd (by rw [RT.size]; simp; omega)
  rw [Array.toArray_toList] at this
  exact this
theorem wpQ_loadR {dst : Option Tmp} {ty : TypeId} {pos : String} {after : Array Edge} {guard : Option (Nat × Bool)} {x : Operand} {b off : Nat} {W : World} {K : Act → Prop} (RT : RowTy T n z) (hw : Region.wanted ⟨dst, .load T x, ty, pos, after, guard⟩ (yielded ops a.tmps) = true) (hx : a.eval x = .pointer (some ⟨b, off, none⟩))
    {c c1 : Array Value} {t : TypeId} {f : Nat × Nat} (hb : blk W b = some (.cells c t f)) (hn : off + n ≤ c.size) (he : c.extract off (off + n) = c1)
    (h : wpQuiet Try.prog ops (fun w' => ∃ d, w' = World.ext W d) K rest (a.put dst (.agg c1))) : wpQuiet Try.prog ops (fun w' => ∃ d, w' = World.ext W d) K (⟨dst, .load T x, ty, pos, after, guard⟩ :: rest) a := by
  subst he
  refine BigFrame.wpQuiet_want hw fun K hK => ⟨_, ?_, hK _ h⟩
  rintro _ ⟨d, rfl⟩
  unfold Oper.quietAt execOp
  simp only [hx, Sem.run_bind, run_loadR RT (blk_extS (d := d) hb) hn]
  exact ⟨rfl, rfl⟩
/-- An operation that yields one value, in whatever world. -/
theorem wpl_pure (hw : Region.wanted o (yielded ops a.tmps) = true) (v : Value) (hv : ∀ w, (execOp a.eval o).run Try.prog w = .ok (.value v) w) (h : wpList Try.prog ops Q rest (a.put o.dst v) w) : wpList Try.prog ops Q (o :: rest) a w :=
  BigFrame.wpList_want hw fun K hK => by unfold Oper.wp; rw [hv]; exact hK _ _ h
theorem wpQ_pure {C : World → Prop} {K : Act → Prop} (hw : Region.wanted o (yielded ops a.tmps) = true) (v : Value) (hv : ∀ w, (execOp a.eval o).run Try.prog w = .ok (.value v) w) (h : wpQuiet Try.prog ops C K rest (a.put o.dst v)) : wpQuiet Try.prog ops C K (o :: rest) a :=
  BigFrame.wpQuiet_want hw fun K hK => ⟨v, fun w _ => by unfold Oper.quietAt; rw [hv]; exact ⟨rfl, rfl⟩, hK _ h⟩
/-- A type whose values lie in one cell. -/
structure CellTy (T : Nat) : Prop where
  und : ∃ d, Try.prog.underlying T = some d ∧ d.isRow = false
  size : (Try.prog.info? T).map (·.size) = some 1
theorem run_loadC (CT : CellTy T) {w : World} {b off : Nat} {c : Array Value} {t : TypeId} {f : Nat × Nat} {v : Value} (hb : w.heap[b]? = some (.cells c t f)) (hv : c[off]? = some v) :
    (Instr.loadAt T (.pointer (some ⟨b, off, none⟩))).run Try.prog w = .ok v w := by
  obtain ⟨d, hu, hd⟩ := CT.und
  have hagg : (isAgg T).run Try.prog w = .ok false w := by
    unfold isAgg
    rw [Sem.run_bind, run_underlying hu w]
    cases d <;> simp_all [TypeDesc.isRow]
  have hc : w.cell? ⟨b, off, none⟩ = some v := by rw [cell_of_row w b off c t f hb]; exact hv
  simp [Instr.loadAt, Instr.sureAddr, loadVar, Sem.run_bind, hagg, go_sem, hc]
theorem wpl_loadC {dst : Option Tmp} {ty : TypeId} {pos : String} {after : Array Edge} {guard : Option (Nat × Bool)} {x : Operand} {b off : Nat} (CT : CellTy T) (hw : Region.wanted ⟨dst, .load T x, ty, pos, after, guard⟩ (yielded ops a.tmps) = true) (hx : a.eval x = .pointer (some ⟨b, off, none⟩))
    {c : Array Value} {v : Value} {t : TypeId} {f : Nat × Nat} (hb : blk w b = some (.cells c t f)) (hv : c[off]? = some v) (h : wpList Try.prog ops Q rest (a.put dst v) w) : wpList Try.prog ops Q (⟨dst, .load T x, ty, pos, after, guard⟩ :: rest) a w :=
  BigFrame.wpList_want hw fun K hK => by
    unfold Oper.wp execOp
    simp only [hx, Sem.run_bind, run_loadC CT hb hv]
    exact hK _ _ h
/-- c0 with v written over its cells from off on. -/
def splice (c0 : Array Value) (off : Nat) (v : Array Value) : Array Value := (c0.toList.take off ++ v.toList ++ c0.toList.drop (off + v.size)).toArray
theorem splice_all {c0 v : Array Value} (h : v.size = c0.size) : splice c0 0 v = v := by
  unfold splice
  rw [List.take_zero, List.nil_append, List.drop_eq_nil_of_le (by simp; omega), List.append_nil]
theorem setCells_blk (b : Nat) : ∀ (vs : List Value) (k : Nat) (w : World) (c : Array Value) (t : TypeId) (f : Nat × Nat), w.heap[b]? = some (.cells c t f) → k + vs.length ≤ c.size →
    w.setCells b k vs = setBlk w b ((c.toList.take k ++ vs ++ c.toList.drop (k + vs.length)).toArray)
  | [], k, w, c, t, f, hb, hk => by
    simp only [World.setCells, List.append_nil, List.length_nil, Nat.add_zero, List.take_append_drop, Array.toArray_toList]
    refine World.eq_of ?_ rfl rfl rfl rfl
    apply Array.ext_getElem?
    intro j
    by_cases e : j = b
    · subst e; rw [hb, setBlk_same w j c c t f hb]
    · rw [setBlk_block _ _ _ _ e]
  | v :: vs, k, w, c, t, f, hb, hk => by
    rw [World.setCells, setCells_blk b vs (k + 1) (w.setCell ⟨b, k, none⟩ v) (c.setIfInBounds k v) t f (by
      have := Joins.block_setCell (i := k) hb v; exact this) (by simp at hk ⊢; omega)]
    have hl : k < c.toList.length := by simp at hk ⊢; omega
    have e : (List.take (k + 1) (c.setIfInBounds k v).toList ++ vs ++ List.drop (k + 1 + vs.length) (c.setIfInBounds k v).toList) = (List.take k c.toList ++ (v :: vs) ++ List.drop (k + (v :: vs).length) c.toList) := by
      rw [Array.toList_setIfInBounds, List.take_succ_eq_append_getElem (by simpa using hl), List.getElem_set_self, List.take_set, List.set_eq_of_length_le (by simp; omega), List.drop_set, if_pos (by omega)]
      simp only [List.length_cons, List.append_assoc, List.cons_append, List.nil_append]
      rw [show k + 1 + vs.length = k + (vs.length + 1) by omega]
    rw [e]
    refine World.eq_of ?_ rfl rfl rfl rfl
    apply Array.ext_getElem?
    intro j
    by_cases e : j = b
    · subst e; rw [setBlk_same _ j _ _ t f (Joins.block_setCell (i := k) hb v), setBlk_same _ j _ c t f hb]
    · rw [setBlk_block _ _ _ _ e, setBlk_block _ _ _ _ e, Below.heap_setCell _ _ _ _ e]
theorem wpl_storeR {dst : Option Tmp} {ty : TypeId} {pos : String} {after : Array Edge} {guard : Option (Nat × Bool)} {x y : Operand} {b off : Nat} {c : Array Value} (RT : RowTy T n z) (hw : Region.wanted ⟨dst, .store T x y, ty, pos, after, guard⟩ (yielded ops a.tmps) = true) (hx : a.eval x = .pointer (some ⟨b, off, none⟩)) (hy : a.eval y = .agg c) (hc : Cells n c)
    {c0 c1 : Array Value} {t : TypeId} {w' : World} (hb : blk w b = some (.cells c0 t (0, 0))) (hn : off + n ≤ c0.size) (hs : splice c0 off c = c1) (hp : SetTo w b c1 w')
    (h : wpList Try.prog ops Q rest (a.put dst undef) w') : wpList Try.prog ops Q (⟨dst, .store T x y, ty, pos, after, guard⟩ :: rest) a w := by
  obtain ⟨_, rfl⟩ := hp
  subst hs
  refine BigFrame.wpList_want hw fun K hK => wp_store_mid T x y rfl b off c hx hy (fun j hj => ⟨?_, frozen_of_row w b (off + j) c0 t hb⟩) (by rw [RT.size, hc.1]) hc.2 (hK _ _ ?_)
  · rw [cell_of_row w b (off + j) c0 t _ hb, Array.getElem?_eq_getElem (by have := hc.1; omega)]; rfl
  · rw [setCells_blk b c.toList off w c0 t _ hb (by have := hc.1; simp; omega)]
    unfold splice at h
    simpa using h
theorem wpl_storeC {dst : Option Tmp} {ty : TypeId} {pos : String} {after : Array Edge} {guard : Option (Nat × Bool)} {x y : Operand} {b off : Nat} {v : Value} (CT : CellTy T) (hw : Region.wanted ⟨dst, .store T x y, ty, pos, after, guard⟩ (yielded ops a.tmps) = true) (hx : a.eval x = .pointer (some ⟨b, off, none⟩)) (hy : a.eval y = v) (hc : v.cells = #[v] ∧ v.oneCell' = true)
    {c0 c1 : Array Value} {t : TypeId} {w' : World} (hb : blk w b = some (.cells c0 t (0, 0))) (hn : off < c0.size) (hs : c0.setIfInBounds off v = c1) (hp : SetTo w b c1 w')
    (h : wpList Try.prog ops Q rest (a.put dst undef) w') : wpList Try.prog ops Q (⟨dst, .store T x y, ty, pos, after, guard⟩ :: rest) a w := by
  obtain ⟨_, rfl⟩ := hp
  subst hs
  refine BigFrame.wpList_want hw fun K hK => ?_
  have hsz : (sizeOf T).run Try.prog w = .ok 1 w := by
    have := CT.size
    cases hi : Try.prog.info? T with
    | none => rw [hi] at this; cases this
    | some i => rw [hi] at this; simp at this; simp [sizeOf, typeInfo, hi, this, go_sem]
  have hcell : (w.cell? ⟨b, off, none⟩).isSome = true := by rw [cell_of_row w b off c0 t _ hb, Array.getElem?_eq_getElem hn]; rfl
  have hfr : w.frozen? ⟨b, off, none⟩ = false := frozen_of_row w b off c0 t hb
  have e : setBlk w b (c0.setIfInBounds off v) = w.setCell ⟨b, off, none⟩ v := by
    refine World.eq_of ?_ rfl rfl rfl rfl
    apply Array.ext_getElem?
    intro j
    by_cases e : j = b
    · subst e; rw [setBlk_same _ j _ c0 t _ hb, Joins.block_setCell (i := off) hb]
    · rw [setBlk_block _ _ _ _ e, Below.heap_setCell _ _ _ _ e]
  rw [e] at h
  obtain ⟨u, hu⟩ := Option.isSome_iff_exists.1 hcell
  unfold Oper.wp execOp
  simp only [hx, hy, Instr.storeAt, Instr.sureAddr, storeVar, Sem.run_bind, Sem.run_pure, Result.andThen_ok, hsz, hc.1]
  have hst : (store ⟨b, off, none⟩ v).run Try.prog w = .ok () (w.setCell ⟨b, off, none⟩ v) := by rw [run_store _ _ _ _ _ hc.2, hu]; simp [hfr]
  simp [storeCells, go_sem, hst]
  exact hK _ _ h
theorem wpl_allocR {dst : Option Tmp} {ty : TypeId} {pos : String} {after : Array Edge} {guard : Option (Nat × Bool)} (RT : RowTy T n z) (hw : Region.wanted ⟨dst, .alloc T, ty, pos, after, guard⟩ (yielded ops a.tmps) = true) (h : wpList Try.prog ops Q rest (a.put dst (.pointer (some ⟨w.heap.size, 0, none⟩))) (w.alloc (.cells z T))) : wpList Try.prog ops Q (⟨dst, .alloc T, ty, pos, after, guard⟩ :: rest) a w := by
  refine BigFrame.wpList_want hw fun K hK => ?_
  have hz := RT.zero
  cases hi : Try.prog.info? T with
  | none => rw [hi] at hz; cases hz
  | some i =>
    rw [hi] at hz
    have hz' : i.zero = some (.agg z) := hz
    unfold Oper.wp execOp
    simp [Instr.alloc, zeroValue, typeInfo, hi, hz', newVar, newRow, Value.cells, go_sem]
    exact hK _ _ h
theorem ret_rowR (RT : RowTy T n z) {fn : Func} {p : Tmp} (hf : fn.results = #[.cell p T]) {R : Ending → World → Prop} {b : Nat} (hp : a.tmps.getD p undef = .pointer (some ⟨b, 0, none⟩)) (hd : a.defers = [])
    {c : Array Value} {t : TypeId} {f : Nat × Nat} (hb : blk w b = some (.cells c t f)) (hn : c.size = n) (h : R (.returned (.agg c)) w) : bodyPost Try.prog fn R .ret a w := by
  obtain ⟨d, hu, hr⟩ := RT.und
  exact bodyPost_ret (v := .agg c) (results_cell_row hf _ w b t c f d hp hb hu (by cases d <;> first | rfl | (simp [TypeDesc.isRow] at hr)) (by rw [RT.size, hn])) hd h
end
end Go.Proofs.Ytacglcpjbepfnaa

/- Memory as a list of things: 'Heap W l w': behind W nothing of W has changed, and the things of l lie in w, apart from each other, in blocks of their own. Worlds stay variables; each step hands on one such fact. -/
namespace Go.Proofs.Ytacglcpjbepfnaa
open Go.RowKit
set_option linter.unusedVariables false
set_option linter.unusedSimpArgs false

/-- A thing: the block where it lies (if any), and what is true of it there. -/
structure Thing where
  fp : Option Nat
  ok : World → Prop
  loc : ∀ w w' : World, (∀ k, fp = some k → w'.heap[k]? = w.heap[k]?) → ok w → ok w'
/-- A block known whole. -/
def Cel (p : Nat) (c : Array Value) (t : TypeId) : Thing := ⟨some p, fun w => blk w p = some (.cells c t (0, 0)), fun _ _ h ho => (h p rfl).trans ho⟩
/-- A row of a slice's value v: nil, or the head of a block. -/
def RowT (e size : Nat) (v : Value) (n : Nat) (xs : List Value) : Thing := ⟨v.ownBlock, fun w => w.ownsRow 0 e size v n xs, fun w w' h ho => by
  obtain ⟨h1, h2⟩ := ho
  refine ⟨h1, ?_⟩
  rcases h2 with h2 | ⟨g, cap, cur, rfl, hg, hh, r⟩
  · exact .inl h2
  · exact .inr ⟨g, cap, cur, rfl, hg, by rw [h g rfl]; exact hh, r⟩⟩
/-- A row that lies at the head of block g. -/
def Sl (g e size n c : Nat) (xs : List Value) : Thing := RowT e size (.slice (some ⟨g, 0, none⟩) n c) n xs

structure Heap (W : World) (l : List Thing) (w : World) : Prop where
  low : Below W.heap.size W w
  ok : ∀ x ∈ l, x.ok w
  fp : ∀ x ∈ l, ∀ k, x.fp = some k → W.heap.size ≤ k ∧ k < w.heap.size
  apart : l.Pairwise fun x y => ∀ k, x.fp = some k → y.fp ≠ some k
/-- l' is l with x' in the place of x. -/
inductive Repl : List Thing → Thing → Thing → List Thing → Prop
  | here {x x' : Thing} {l : List Thing} : Repl (x :: l) x x' (x' :: l)
  | there {x x' y : Thing} {l l' : List Thing} : Repl l x x' l' → Repl (y :: l) x x' (y :: l')
/-- r is l without x. -/
inductive Pull : List Thing → Thing → List Thing → Prop
  | here {x : Thing} {l : List Thing} : Pull (x :: l) x l
  | there {x y : Thing} {l l' : List Thing} : Pull l x l' → Pull (y :: l) x (y :: l')
theorem Pull.perm {l r : List Thing} {x : Thing} (h : Pull l x r) : l.Perm (x :: r) := by
  induction h with
  | here => exact .refl _
  | there _ ih => exact (ih.cons _).trans (.swap _ _ _)
theorem Repl.perm {l l' : List Thing} {x x' : Thing} (h : Repl l x x' l') : ∃ r, l.Perm (x :: r) ∧ l'.Perm (x' :: r) := by
  induction h with
  | here => exact ⟨_, .refl _, .refl _⟩
  | there h ih =>
    obtain ⟨r, h1, h2⟩ := ih
    exact ⟨_, (h1.cons _).trans (.swap _ _ _), (h2.cons _).trans (.swap _ _ _)⟩
theorem Repl.mem {l l' : List Thing} {x x' : Thing} (h : Repl l x x' l') : x ∈ l := by
  obtain ⟨r, h1, _⟩ := h.perm
  exact h1.mem_iff.2 (List.mem_cons_self ..)

section
variable {W w w' : World} {l l' r : List Thing} {x x' : Thing}
theorem Heap.start (W : World) : Heap W [] W := ⟨Below.refl _ _, (fun _ h => by cases h), (fun _ h => by cases h), .nil⟩
theorem Heap.perm (H : Heap W l w) (h : l.Perm l') : Heap W l' w :=
  ⟨H.low, fun x hx => H.ok x (h.mem_iff.2 hx), fun x hx => H.fp x (h.mem_iff.2 hx), (h.pairwise_iff (fun {x y} hxy k hy hx => hxy k hx hy)).1 H.apart⟩
theorem Heap.pull (H : Heap W l w) (h : Pull l x r) : Heap W (x :: r) w := H.perm h.perm
theorem Heap.tail (H : Heap W (x :: l) w) : Heap W l w := ⟨H.low, fun x hx => H.ok x (List.mem_cons_of_mem _ hx), fun x hx => H.fp x (List.mem_cons_of_mem _ hx), (List.pairwise_cons.1 H.apart).2⟩
theorem Heap.drop (H : Heap W l w) (h : Pull l x r) : Heap W r w := (H.pull h).tail
theorem Heap.nothing (H : Heap W l w) : Heap W [] w := ⟨H.low, (fun _ h => by cases h), (fun _ h => by cases h), .nil⟩
theorem Heap.top2 {y : Thing} {s : List Thing} (H : Heap W l w) (h1 : Pull l x r) (h2 : Pull r y s) : Heap W (x :: y :: s) w := H.perm (h1.perm.trans (h2.perm.cons _))
/-- The first thing turned into another one, of the same block or a new one. -/
theorem Heap.head (H : Heap W (x :: l) w) (hg : w.grownBy w' x.fp) (hok : x'.ok w') (hf : x'.fp = x.fp ∨ ∀ k, x'.fp = some k → w.heap.size ≤ k ∧ k < w'.heap.size) : Heap W (x' :: l) w' := by
  have hap := List.pairwise_cons.1 H.apart
  refine ⟨H.low.grown hg H.low.size (fun k hk => (H.fp x (List.mem_cons_self ..) k hk).1), ?_, ?_, List.pairwise_cons.2 ⟨?_, hap.2⟩⟩
  · intro y hy
    rcases List.mem_cons.1 hy with rfl | hy
    · exact hok
    · refine y.loc w w' (fun k hk => hg.block k (H.fp y (List.mem_cons_of_mem _ hy) k hk).2 (fun e => hap.1 y hy k e.symm hk)) (H.ok y (List.mem_cons_of_mem _ hy))
  · intro y hy k hk
    rcases List.mem_cons.1 hy with rfl | hy
    · rcases hf with hf | hf
      · have := H.fp x (List.mem_cons_self ..) k (hf ▸ hk); exact ⟨this.1, Nat.lt_of_lt_of_le this.2 hg.size⟩
      · exact ⟨Nat.le_trans H.low.size (hf k hk).1, (hf k hk).2⟩
    · have := H.fp y (List.mem_cons_of_mem _ hy) k hk; exact ⟨this.1, Nat.lt_of_lt_of_le this.2 hg.size⟩
  · intro y hy k hk hk'
    rcases hf with hf | hf
    · exact hap.1 y hy k (hf ▸ hk) hk'
    · have := H.fp y (List.mem_cons_of_mem _ hy) k hk'; have := hf k hk; omega
theorem Heap.upd (H : Heap W l w) (h : Repl l x x' l') (hg : w.grownBy w' x.fp) (hok : x'.ok w') (hf : x'.fp = x.fp ∨ ∀ k, x'.fp = some k → w.heap.size ≤ k ∧ k < w'.heap.size) : Heap W l' w' := by
  obtain ⟨r, h1, h2⟩ := h.perm
  exact ((H.perm h1).head hg hok hf).perm h2.symm
theorem Heap.add (H : Heap W l w) (hg : w.grownBy w' none) (hok : x.ok w') (hf : ∀ k, x.fp = some k → w.heap.size ≤ k ∧ k < w'.heap.size) : Heap W (x :: l) w' := by
  have H0 : Heap W ((⟨none, fun _ => True, fun _ _ _ h => h⟩ : Thing) :: l) w := ⟨H.low, fun y hy => by
      rcases List.mem_cons.1 hy with rfl | hy
      · trivial
      · exact H.ok y hy, fun y hy k hk => by
      rcases List.mem_cons.1 hy with rfl | hy
      · cases hk
      · exact H.fp y hy k hk, List.pairwise_cons.2 ⟨(fun _ _ _ h => by cases h), H.apart⟩⟩
  exact H0.head hg hok (.inr hf)
theorem Heap.grow (H : Heap W l w) (h : Ext w w') : Heap W l w' :=
  ⟨Below.trans H.low (Below.mono h H.low.size), fun x hx => x.loc w w' (fun k hk => h.block k (H.fp x hx k hk).2) (H.ok x hx), fun x hx k hk => ⟨(H.fp x hx k hk).1, Nat.lt_of_lt_of_le (H.fp x hx k hk).2 h.size⟩, H.apart⟩
theorem Heap.alloc (H : Heap W l w) (c : Array Value) (t : TypeId) : Heap W (Cel w.heap.size c t :: l) (w.alloc (.cells c t)) :=
  H.add ⟨rfl, rfl, rfl, by simp, fun k hk _ => Below.heap_alloc _ _ _ hk⟩ (blk_here rfl) (fun k hk => by cases hk; exact ⟨Nat.le_refl _, by simp⟩)
theorem Heap.drew (H : Heap W l w) : Heap W l w.drew := H.grow (Ext.refl w).drew
theorem Heap.blk (H : Heap W l w) {p : Nat} {c : Array Value} {t : TypeId} (m : Cel p c t ∈ l) : blk w p = some (.cells c t (0, 0)) := H.ok _ m
theorem Heap.rd (H : Heap W l w) {a : Option Addr} {xs : List Value} (R : Rd W a xs) : Rd w a xs := R.below H.low
theorem grown_setBlk {w : World} {p : Nat} {c : Array Value} : w.grownBy (setBlk w p c) (some p) :=
  ⟨rfl, rfl, rfl, by rw [size_setBlk]; exact Nat.le_refl _, fun k _ hk => setBlk_block w p c k (fun e => hk (by rw [e]))⟩
theorem Heap.set (H : Heap W l w) {p : Nat} {c c' : Array Value} {t : TypeId} (h : Repl l (Cel p c t) (Cel p c' t) l') : Heap W l' (setBlk w p c') :=
  H.upd h grown_setBlk (setBlk_same w p c' c t (0, 0) (H.blk h.mem)) (.inl rfl)
theorem RowT.sl {e size n : Nat} {v : Value} {xs : List Value} (h : (RowT e size v n xs).ok w) (hn : 0 < n) : ∃ g c, v = .slice (some ⟨g, 0, none⟩) n c ∧ n ≤ c ∧ c ≤ maxLen := by
  obtain ⟨_, ⟨_, rfl⟩ | ⟨g, c, cur, rfl, _, _, h1, h2, _⟩⟩ := h
  · omega
  · exact ⟨g, c, rfl, h1, h2⟩
end

theorem wpQuiet_mono {P : Program} {ops : Array Oper} {C : World → Prop} {K K' : Act → Prop} (hk : ∀ a, K a → K' a) : ∀ (l : List Oper) (a : Act), wpQuiet P ops C K l a → wpQuiet P ops C K' l a
  | [], _, h => hk _ h
  | o :: l, a, h => by
    unfold wpQuiet at *
    split
    · rename_i hw; rw [if_pos hw] at h; exact Oper.quiet_mono (fun a' => wpQuiet_mono hk l a') h
    · rename_i hw; rw [if_neg hw] at h; exact wpQuiet_mono hk l _ h
section
variable {ops : Array Oper} {rest : List Oper} {o : Oper} {a : Act} {w W : World} {l : List Thing} {Q : Exit → Act → World → Prop} {T n : Nat} {z : Array Value}
theorem wpl_loadCH {dst : Option Tmp} {ty : TypeId} {pos : String} {after : Array Edge} {guard : Option (Nat × Bool)} {x : Operand} {b off : Nat} (CT : CellTy T) (hw : Region.wanted ⟨dst, .load T x, ty, pos, after, guard⟩ (yielded ops a.tmps) = true) (hx : a.eval x = .pointer (some ⟨b, off, none⟩))
    (H : Heap W l w) {c : Array Value} {v : Value} {t : TypeId} (m : Cel b c t ∈ l) (hv : c[off]? = some v) (h : wpList Try.prog ops Q rest (a.put dst v) w) : wpList Try.prog ops Q (⟨dst, .load T x, ty, pos, after, guard⟩ :: rest) a w :=
  wpl_loadC CT hw hx (H.blk m) hv h
theorem wpl_loadRH {dst : Option Tmp} {ty : TypeId} {pos : String} {after : Array Edge} {guard : Option (Nat × Bool)} {x : Operand} {b off : Nat} (RT : RowTy T n z) (hw : Region.wanted ⟨dst, .load T x, ty, pos, after, guard⟩ (yielded ops a.tmps) = true) (hx : a.eval x = .pointer (some ⟨b, off, none⟩))
    (H : Heap W l w) {c c1 : Array Value} {t : TypeId} (m : Cel b c t ∈ l) (hn : off + n ≤ c.size) (he : c.extract off (off + n) = c1) (h : wpList Try.prog ops Q rest (a.put dst (.agg c1)) w) : wpList Try.prog ops Q (⟨dst, .load T x, ty, pos, after, guard⟩ :: rest) a w :=
  wpl_loadR RT hw hx (H.blk m) hn he h
theorem wpl_storeCH {dst : Option Tmp} {ty : TypeId} {pos : String} {after : Array Edge} {guard : Option (Nat × Bool)} {x y : Operand} {b off : Nat} {v : Value} (CT : CellTy T) (hw : Region.wanted ⟨dst, .store T x y, ty, pos, after, guard⟩ (yielded ops a.tmps) = true) (hx : a.eval x = .pointer (some ⟨b, off, none⟩)) (hy : a.eval y = v) (hc : v.cells = #[v] ∧ v.oneCell' = true)
    {c c1 : Array Value} {t : TypeId} {l' : List Thing} (H : Heap W l w) (m : Cel b c t ∈ l) (hn : off < c.size) (hs : c.setIfInBounds off v = c1) (r : Repl l (Cel b c t) (Cel b c1 t) l')
    (h : ∀ w', Heap W l' w' → wpList Try.prog ops Q rest (a.put dst undef) w') : wpList Try.prog ops Q (⟨dst, .store T x y, ty, pos, after, guard⟩ :: rest) a w :=
  wpl_storeC CT hw hx hy hc (H.blk m) hn hs ⟨⟨_, H.blk m⟩, rfl⟩ (h _ (H.set r))
theorem wpl_storeIH {dst : Option Tmp} {ty : TypeId} {pos : String} {after : Array Edge} {guard : Option (Nat × Bool)} {x y : Operand} {b off : Nat} {k0 : IntKind} {n0 : Int} (CT : CellTy T) (hw : Region.wanted ⟨dst, .store T x y, ty, pos, after, guard⟩ (yielded ops a.tmps) = true) (hx : a.eval x = .pointer (some ⟨b, off, none⟩)) (hy : a.eval y = .int k0 n0)
    {c c1 : Array Value} {t : TypeId} {l' : List Thing} (H : Heap W l w) (m : Cel b c t ∈ l) (hn : off < c.size) (hs : c.setIfInBounds off (.int k0 n0) = c1) (r : Repl l (Cel b c t) (Cel b c1 t) l')
    (h : ∀ w', Heap W l' w' → wpList Try.prog ops Q rest (a.put dst undef) w') : wpList Try.prog ops Q (⟨dst, .store T x y, ty, pos, after, guard⟩ :: rest) a w :=
  wpl_storeCH CT hw hx hy ⟨rfl, rfl⟩ H m hn hs r h
theorem wpl_storeBH {dst : Option Tmp} {ty : TypeId} {pos : String} {after : Array Edge} {guard : Option (Nat × Bool)} {x y : Operand} {b off : Nat} {b0 : Bool} (CT : CellTy T) (hw : Region.wanted ⟨dst, .store T x y, ty, pos, after, guard⟩ (yielded ops a.tmps) = true) (hx : a.eval x = .pointer (some ⟨b, off, none⟩)) (hy : a.eval y = .bool b0)
    {c c1 : Array Value} {t : TypeId} {l' : List Thing} (H : Heap W l w) (m : Cel b c t ∈ l) (hn : off < c.size) (hs : c.setIfInBounds off (.bool b0) = c1) (r : Repl l (Cel b c t) (Cel b c1 t) l')
    (h : ∀ w', Heap W l' w' → wpList Try.prog ops Q rest (a.put dst undef) w') : wpList Try.prog ops Q (⟨dst, .store T x y, ty, pos, after, guard⟩ :: rest) a w :=
  wpl_storeCH CT hw hx hy ⟨rfl, rfl⟩ H m hn hs r h
theorem wpl_storeSH {dst : Option Tmp} {ty : TypeId} {pos : String} {after : Array Edge} {guard : Option (Nat × Bool)} {x y : Operand} {b off : Nat} {a0 : Option Addr} {n0 c0 : Nat} (CT : CellTy T) (hw : Region.wanted ⟨dst, .store T x y, ty, pos, after, guard⟩ (yielded ops a.tmps) = true) (hx : a.eval x = .pointer (some ⟨b, off, none⟩)) (hy : a.eval y = .slice a0 n0 c0)
    {c c1 : Array Value} {t : TypeId} {l' : List Thing} (H : Heap W l w) (m : Cel b c t ∈ l) (hn : off < c.size) (hs : c.setIfInBounds off (.slice a0 n0 c0) = c1) (r : Repl l (Cel b c t) (Cel b c1 t) l')
    (h : ∀ w', Heap W l' w' → wpList Try.prog ops Q rest (a.put dst undef) w') : wpList Try.prog ops Q (⟨dst, .store T x y, ty, pos, after, guard⟩ :: rest) a w :=
  wpl_storeCH CT hw hx hy ⟨rfl, rfl⟩ H m hn hs r h
theorem wpl_storePH {dst : Option Tmp} {ty : TypeId} {pos : String} {after : Array Edge} {guard : Option (Nat × Bool)} {x y : Operand} {b off : Nat} {a0 : Option Addr} (CT : CellTy T) (hw : Region.wanted ⟨dst, .store T x y, ty, pos, after, guard⟩ (yielded ops a.tmps) = true) (hx : a.eval x = .pointer (some ⟨b, off, none⟩)) (hy : a.eval y = .pointer a0)
    {c c1 : Array Value} {t : TypeId} {l' : List Thing} (H : Heap W l w) (m : Cel b c t ∈ l) (hn : off < c.size) (hs : c.setIfInBounds off (.pointer a0) = c1) (r : Repl l (Cel b c t) (Cel b c1 t) l')
    (h : ∀ w', Heap W l' w' → wpList Try.prog ops Q rest (a.put dst undef) w') : wpList Try.prog ops Q (⟨dst, .store T x y, ty, pos, after, guard⟩ :: rest) a w :=
  wpl_storeCH CT hw hx hy ⟨rfl, rfl⟩ H m hn hs r h
theorem wpl_storeRH {dst : Option Tmp} {ty : TypeId} {pos : String} {after : Array Edge} {guard : Option (Nat × Bool)} {x y : Operand} {b off : Nat} {c2 : Array Value} (RT : RowTy T n z) (hw : Region.wanted ⟨dst, .store T x y, ty, pos, after, guard⟩ (yielded ops a.tmps) = true) (hx : a.eval x = .pointer (some ⟨b, off, none⟩)) (hy : a.eval y = .agg c2) (hc : Cells n c2)
    {c c1 : Array Value} {t : TypeId} {l' : List Thing} (H : Heap W l w) (m : Cel b c t ∈ l) (hn : off + n ≤ c.size) (hs : splice c off c2 = c1) (r : Repl l (Cel b c t) (Cel b c1 t) l')
    (h : ∀ w', Heap W l' w' → wpList Try.prog ops Q rest (a.put dst undef) w') : wpList Try.prog ops Q (⟨dst, .store T x y, ty, pos, after, guard⟩ :: rest) a w :=
  wpl_storeR RT hw hx hy hc (H.blk m) hn hs ⟨⟨_, H.blk m⟩, rfl⟩ (h _ (H.set r))
theorem wpl_allocRH {dst : Option Tmp} {ty : TypeId} {pos : String} {after : Array Edge} {guard : Option (Nat × Bool)} (RT : RowTy T n z) (hw : Region.wanted ⟨dst, .alloc T, ty, pos, after, guard⟩ (yielded ops a.tmps) = true)
    (H : Heap W l w) (h : ∀ p w', Heap W (Cel p z T :: l) w' → wpList Try.prog ops Q rest (a.put dst (.pointer (some ⟨p, 0, none⟩))) w') : wpList Try.prog ops Q (⟨dst, .alloc T, ty, pos, after, guard⟩ :: rest) a w :=
  wpl_allocR RT hw (h _ _ (H.alloc _ _))
theorem wpl_boxRH {dst : Option Tmp} {ty : TypeId} {pos : String} {after : Array Edge} {guard : Option (Nat × Bool)} {x : Operand} {c : Array Value} (hw : Region.wanted ⟨dst, .box T x, ty, pos, after, guard⟩ (yielded ops a.tmps) = true) (hx : a.eval x = .agg c)
    (H : Heap W l w) (h : ∀ p w', Heap W (Cel p c T :: l) w' → wpList Try.prog ops Q rest (a.put dst (.pointer (some ⟨p, 0, none⟩))) w') : wpList Try.prog ops Q (⟨dst, .box T x, ty, pos, after, guard⟩ :: rest) a w := by
  refine BigFrame.wpList_want hw fun K hK => ?_
  unfold Oper.wp execOp
  simp only [hx, Instr.box, newVar, newRow, Value.cells]
  exact hK _ _ (h _ _ (H.alloc _ _))
theorem wpl_boxCH {dst : Option Tmp} {ty : TypeId} {pos : String} {after : Array Edge} {guard : Option (Nat × Bool)} {x : Operand} {v : Value} (hw : Region.wanted ⟨dst, .box T x, ty, pos, after, guard⟩ (yielded ops a.tmps) = true) (hx : a.eval x = v) (hv : v.cells = #[v])
    (H : Heap W l w) (h : ∀ p w', Heap W (Cel p #[v] T :: l) w' → wpList Try.prog ops Q rest (a.put dst (.pointer (some ⟨p, 0, none⟩))) w') : wpList Try.prog ops Q (⟨dst, .box T x, ty, pos, after, guard⟩ :: rest) a w := by
  refine BigFrame.wpList_want hw fun K hK => ?_
  unfold Oper.wp execOp
  simp only [hx, Instr.box, newVar, newRow, hv]
  exact hK _ _ (h _ _ (H.alloc _ _))
/-- A callee that only makes memory. -/
theorem Ans.callH {f : FuncId} {args : Array Value} {v : Value} {R : Ending → World → Prop} (h : Ans f args v) (H : Heap W l w) (k : ∀ w', Heap W l w' → R (.returned v) w') : Calls Try.prog f args w R :=
  (h w).mono fun _ _ ⟨he, hb⟩ => by rw [he]; exact k _ (H.grow hb)
/-- In whatever world where these things lie so, it answers v, and they lie so then. -/
def AnsH (W : World) (l : List Thing) (f : FuncId) (args : Array Value) (v : Value) : Prop := ∀ w, Heap W l w → Calls Try.prog f args w fun e w' => e = .returned v ∧ Heap W l w'
theorem AnsH.call {f : FuncId} {args : Array Value} {v : Value} {R : Ending → World → Prop} (h : AnsH W l f args v) (H : Heap W l w) (k : ∀ w', Heap W l w' → R (.returned v) w') : Calls Try.prog f args w R :=
  (h w H).mono fun _ _ ⟨he, hb⟩ => by rw [he]; exact k _ hb
theorem Ans.toH {f : FuncId} {args : Array Value} {v : Value} (h : Ans f args v) : AnsH W l f args v := fun w H => (h w).mono fun _ _ ⟨he, hb⟩ => ⟨he, H.grow hb⟩
open Classical in
/-- Whatever world in which the things lie so. -/
noncomputable def Heap.any {W w : World} {l : List Thing} (_ : Heap W l w) (d : World) : World := if Heap W l d then d else w
theorem Heap.any_heap (H : Heap W l w) (d : World) : Heap W l (H.any d) := by
  unfold Heap.any
  split
  · assumption
  · exact H
theorem Heap.any_of (H : Heap W l w) {w' : World} (h : Heap W l w') : ∃ d, w' = H.any d := ⟨w', by unfold Heap.any; rw [if_pos h]⟩
theorem AnsH.quiet {f : FuncId} {args : Array Value} {v : Value} {H : Heap W l w} {d : World} (h : AnsH W l f args v) : Calls Try.prog f args (H.any d) fun e w'' => e = .returned v ∧ ∃ m, w'' = H.any m :=
  (h _ (H.any_heap d)).mono fun _ _ ⟨he, hb⟩ => ⟨he, H.any_of hb⟩
theorem Ans.quietH {f : FuncId} {args : Array Value} {v : Value} {H : Heap W l w} {d : World} (h : Ans f args v) : Calls Try.prog f args (H.any d) fun e w'' => e = .returned v ∧ ∃ m, w'' = H.any m := AnsH.quiet h.toH
/-- A region that draws its order and only reads, or calls what leaves the things so. -/
theorem wp_region_H {id : Nat} {Q : Exit → Act → World → Prop} {a : Act} {lo : List Oper} (H : Heap W l w) (hm : Try.prog.follows .mixedOrders = true) (hB : Region.lexB .any lo.toArray = true)
    (h : wpQuiet Try.prog lo.toArray (fun w' => ∃ d, w' = H.any d) (fun a' => ∀ w', Heap W l w' → Q .normal a' w') lo a) : (Code.region id lo.toArray true).wp Try.prog Q a w := by
  refine wp_region_quiet (C := fun w' => ∃ d, w' = H.any d) hm hB (H.any_of H.drew) (wpQuiet_mono (fun _ h w' hw' => by obtain ⟨d, rfl⟩ := hw'; exact h _ (H.any_heap d)) _ _ (by simpa using h))
theorem wpQ_loadCH {dst : Option Tmp} {ty : TypeId} {pos : String} {after : Array Edge} {guard : Option (Nat × Bool)} {x : Operand} {b off : Nat} {K : Act → Prop} {H : Heap W l w} (CT : CellTy T) (hw : Region.wanted ⟨dst, .load T x, ty, pos, after, guard⟩ (yielded ops a.tmps) = true) (hx : a.eval x = .pointer (some ⟨b, off, none⟩))
    {c : Array Value} {v : Value} {t : TypeId} (m : Cel b c t ∈ l) (hv : c[off]? = some v)
    (h : wpQuiet Try.prog ops (fun w' => ∃ d, w' = H.any d) K rest (a.put dst v)) : wpQuiet Try.prog ops (fun w' => ∃ d, w' = H.any d) K (⟨dst, .load T x, ty, pos, after, guard⟩ :: rest) a := by
  refine BigFrame.wpQuiet_want hw fun K hK => ⟨_, ?_, hK _ h⟩
  rintro _ ⟨d, rfl⟩
  unfold Oper.quietAt execOp
  simp only [hx, Sem.run_bind, run_loadC CT ((H.any_heap d).blk m) hv]
  exact ⟨rfl, rfl⟩
theorem wpQ_loadRH {dst : Option Tmp} {ty : TypeId} {pos : String} {after : Array Edge} {guard : Option (Nat × Bool)} {x : Operand} {b off : Nat} {K : Act → Prop} {H : Heap W l w} (RT : RowTy T n z) (hw : Region.wanted ⟨dst, .load T x, ty, pos, after, guard⟩ (yielded ops a.tmps) = true) (hx : a.eval x = .pointer (some ⟨b, off, none⟩))
    {c c1 : Array Value} {t : TypeId} (m : Cel b c t ∈ l) (hn : off + n ≤ c.size) (he : c.extract off (off + n) = c1)
    (h : wpQuiet Try.prog ops (fun w' => ∃ d, w' = H.any d) K rest (a.put dst (.agg c1))) : wpQuiet Try.prog ops (fun w' => ∃ d, w' = H.any d) K (⟨dst, .load T x, ty, pos, after, guard⟩ :: rest) a := by
  subst he
  refine BigFrame.wpQuiet_want hw fun K hK => ⟨_, ?_, hK _ h⟩
  rintro _ ⟨d, rfl⟩
  unfold Oper.quietAt execOp
  simp only [hx, Sem.run_bind, run_loadR RT ((H.any_heap d).blk m) hn]
  exact ⟨rfl, rfl⟩
theorem run_buildSlice1 {t e : Nat} {zs : Array Value} (hu : Try.prog.underlying t = some (.slice e)) (RT : (Try.prog.info? e).map (fun i => (i.size, i.zero.map Value.cells)) = some (zs.size, some zs)) (h0 : 0 < zs.size) (h1 : zs.size ≤ 65536) (v : Value) (hv : v.cells.size = zs.size) (w : World) :
    (Instr.buildSlice t 1 #[(0, v)]).run Try.prog w = .ok (.slice (some ⟨w.heap.size, 0, none⟩) 1 1) (w.alloc (.cells v.cells e)) := by
  obtain ⟨i, hi, he⟩ := Option.map_eq_some_iff.1 RT
  simp only [Prod.mk.injEq] at he
  obtain ⟨hs, hz⟩ := he
  obtain ⟨zv, hzv, rfl⟩ := Option.map_eq_some_iff.1 hz
  have hne : zv.cells.size ≠ 0 := by omega
  have hbig : ¬ (2 ^ 24 < zv.cells.size) := by omega
  have key : ∀ (xs : List Value) (k : Nat) (pre post : List Value), pre.length = k → xs.length ≤ post.length → (List.foldl (fun (cs : Array Value) (x : Value × Nat) => cs.setIfInBounds x.2 x.1) (pre ++ post).toArray (xs.zipIdx k)) = (pre ++ xs ++ post.drop xs.length).toArray := by
    intro xs
    induction xs with
    | nil => intro k pre post _ _; simp
    | cons x xs ih =>
      intro k pre post hk hl
      rcases post with _ | ⟨y, post⟩
      · simp at hl
      · subst hk
        simp only [List.zipIdx_cons, List.foldl_cons, List.setIfInBounds_toArray]
        have := ih (pre.length + 1) (pre ++ [x]) post (by simp) (by simpa using hl)
        rw [show (pre ++ y :: post).set pre.length x = (pre ++ [x]) ++ post by simp [List.set_append], this]
        simp
  have hk := key v.cells.toList 0 [] (List.map (fun j => zv.cells[j % zv.cells.size]!) (List.range zv.cells.size)) rfl (by simp [hv])
  simp only [List.nil_append, List.length_map, Array.length_toList] at hk
  have hk2 : Array.foldl (fun (cs : Array Value) (x : Value × Nat) => cs.setIfInBounds x.2 x.1) (Array.map (fun j => zv.cells[j % zv.cells.size]!) (Array.range zv.cells.size)) v.cells.zipIdx = v.cells := by
    rw [← Array.foldl_toList]
    simp only [Array.toList_zipIdx]
    rw [show Array.map (fun j => zv.cells[j % zv.cells.size]!) (Array.range zv.cells.size) = (List.map (fun j => zv.cells[j % zv.cells.size]!) (List.range zv.cells.size)).toArray by
      apply Array.ext'; simp]
    rw [hk]
    rw [List.drop_eq_nil_of_le (by simp [hv])]
    simp
  have hsz : (Array.map (fun j => zv.cells[j % zv.cells.size]!) (Array.range zv.cells.size)).size = zv.cells.size := by simp
  have r1 : (sizeOf e).run Try.prog w = .ok zv.cells.size w := by simp [sizeOf, typeInfo, hi, hs, go_sem]
  have r2 : (zeroValue e).run Try.prog w = .ok zv w := by simp [zeroValue, typeInfo, hi, hzv, go_sem]
  have hf : Instr.fill (fun i => some (i * zv.cells.size, zv.cells.size)) (Array.map (fun x => zv.cells[x % zv.cells.size]!) (Array.range zv.cells.size)) [(0, v)] = some v.cells := by
    unfold Instr.fill
    simp only [Nat.zero_mul, Nat.zero_add, hsz, hv]
    rw [if_neg (by simp)]
    unfold Instr.fill
    exact congrArg some hk2
  unfold Instr.buildSlice
  rw [Sem.run_bind, run_underlying hu]
  simp only [Result.andThen_ok]
  rw [Sem.run_bind, r1]
  simp only [Result.andThen_ok, Nat.one_mul]
  rw [if_neg hbig, if_neg hne]
  simp only [Sem.run_bind, r2, Result.andThen_ok, Sem.run_pure]
  rw [hf]
  simp [newRow, go_sem]
theorem wpl_bsH {dst : Option Tmp} {ty : TypeId} {pos : String} {after : Array Edge} {guard : Option (Nat × Bool)} {x : Operand} {v : Value} {t e : Nat} {c zs : Array Value} (hw : Region.wanted ⟨dst, .buildSlice t 1 #[(0, x)], ty, pos, after, guard⟩ (yielded ops a.tmps) = true) (hx : a.eval x = v) (hc : v.cells = c)
    (hT : Try.prog.underlying t = some (.slice e) ∧ (Try.prog.info? e).map (fun i => (i.size, i.zero.map Value.cells)) = some (zs.size, some zs) ∧ 0 < zs.size ∧ zs.size ≤ 65536) (hv : c.size = zs.size)
    (H : Heap W l w) (h : ∀ p w', Heap W (Cel p c e :: l) w' → wpList Try.prog ops Q rest (a.put dst (.slice (some ⟨p, 0, none⟩) 1 1)) w') : wpList Try.prog ops Q (⟨dst, .buildSlice t 1 #[(0, x)], ty, pos, after, guard⟩ :: rest) a w := by
  subst hc
  refine BigFrame.wpList_want hw fun K hK => ?_
  unfold Oper.wp execOp
  simp only [List.map_toArray, List.map_cons, List.map_nil, hx, Sem.run_bind, run_buildSlice1 hT.1 hT.2.1 hT.2.2.1 hT.2.2.2 v hv, Result.andThen_ok, Sem.run_pure]
  exact hK _ _ (h _ _ (H.alloc _ _))
theorem wpl_bsRH {dst : Option Tmp} {ty : TypeId} {pos : String} {after : Array Edge} {guard : Option (Nat × Bool)} {x : Operand} {t e : Nat} {c zs : Array Value} (hw : Region.wanted ⟨dst, .buildSlice t 1 #[(0, x)], ty, pos, after, guard⟩ (yielded ops a.tmps) = true) (hx : a.eval x = .agg c)
    (hT : Try.prog.underlying t = some (.slice e) ∧ (Try.prog.info? e).map (fun i => (i.size, i.zero.map Value.cells)) = some (zs.size, some zs) ∧ 0 < zs.size ∧ zs.size ≤ 65536) (hv : c.size = zs.size)
    (H : Heap W l w) (h : ∀ p w', Heap W (Cel p c e :: l) w' → wpList Try.prog ops Q rest (a.put dst (.slice (some ⟨p, 0, none⟩) 1 1)) w') : wpList Try.prog ops Q (⟨dst, .buildSlice t 1 #[(0, x)], ty, pos, after, guard⟩ :: rest) a w :=
  wpl_bsH hw hx rfl hT hv H h
theorem Heap.loadVar (RT : RowTy T n z) (H : Heap W l w) {b : Nat} {c : Array Value} {t : TypeId} (m : Cel b c t ∈ l) (hn : c.size = n) : (loadVar T ⟨b, 0, none⟩).run Try.prog w = .ok (.agg c) w := by
  obtain ⟨d, hu, hr⟩ := RT.und
  exact run_loadVar_row w b t T c (0, 0) d (H.blk m) hu (by cases d <;> first | rfl | (simp [TypeDesc.isRow] at hr)) (by rw [RT.size, hn])
theorem ret_row2H (RT : RowTy T n z) {fn : Func} {p x : Tmp} (hf : fn.results = #[.cell p T, .tmp x]) {R : Ending → World → Prop} {b : Nat} (hp : a.tmps.getD p undef = .pointer (some ⟨b, 0, none⟩)) (hd : a.defers = [])
    (H : Heap W l w) {c : Array Value} {t : TypeId} (m : Cel b c t ∈ l) (hn : c.size = n) {vx : Value} (hx : a.tmps.getD x undef = vx) (h : R (.returned (.tuple #[.agg c, vx])) w) : bodyPost Try.prog fn R .ret a w := by
  have hp' : a.tmps[p]?.getD undef = .pointer (some ⟨b, 0, none⟩) := by simpa using hp
  have hx' : a.tmps[x]?.getD undef = vx := by simpa using hx
  exact bodyPost_ret (v := .tuple #[.agg c, vx]) (by simp [results, hf, hp', hx', asAddr, H.loadVar RT m hn]) hd h
end
end Go.Proofs.Ytacglcpjbepfnaa

/- More operations over a memory of things: slice literals. -/
namespace Go.Proofs.Ytacglcpjbepfnaa
open Go.RowKit
set_option linter.unusedVariables false
set_option linter.unusedSimpArgs false
set_option maxRecDepth 100000
section
variable {ops : Array Oper} {rest : List Oper} {a : Act} {w W : World} {l : List Thing} {Q : Exit → Act → World → Prop}
/-- Slice literals of one-cell elements: the parts put in, one by one. -/
theorem fill_ones : ∀ (vs : List Value) (k : Nat) (pre post : List Value), pre.length = k → post.length = vs.length → (∀ v ∈ vs, v.cells = #[v]) → Instr.fill (fun i => some (i * 1, 1)) (pre ++ post).toArray (vs.zipIdx k |>.map fun (v, i) => (i, v)) = some (pre ++ vs).toArray
  | [], k, pre, post, hk, hl, _ => by
    have : post = [] := List.eq_nil_of_length_eq_zero (by simpa using hl)
    subst this; simp [Instr.fill]
  | v :: vs, k, pre, [], hk, hl, _ => by simp at hl
  | v :: vs, k, pre, y :: post, hk, hl, hv => by
    subst hk
    have h1 := hv v (List.mem_cons_self ..)
    simp only [List.zipIdx_cons, List.map_cons]
    unfold Instr.fill
    simp only [Nat.mul_one, h1, List.size_toArray, List.length_singleton, List.length_append, List.length_cons]
    rw [if_neg (by simp)]
    have e : (Array.foldl (fun (cs : Array Value) (x : Value × Nat) => cs.setIfInBounds (pre.length + x.2) x.1) (pre ++ y :: post).toArray (#[v] : Array Value).zipIdx) = ((pre ++ [v]) ++ post).toArray := by
      simp [List.set_append]
    rw [e]
    have := fill_ones vs (pre.length + 1) (pre ++ [v]) post (by simp) (by simpa using hl) (fun u hu => hv u (List.mem_cons_of_mem _ hu))
    simp only [Nat.mul_one] at this
    rw [this]
    simp
theorem wpl_bsOnes {dst : Option Tmp} {ty : TypeId} {pos : String} {after : Array Edge} {guard : Option (Nat × Bool)} {t e n : Nat} {z : Value} (xs : List (Nat × Operand)) (vs : List Value) (hw : Region.wanted ⟨dst, .buildSlice t n xs.toArray, ty, pos, after, guard⟩ (yielded ops a.tmps) = true)
    (hx : xs.map (fun (i, x) => (i, a.eval x)) = vs.zipIdx.map fun (v, i) => (i, v)) (hn : vs.length = n) (h0 : 0 < n) (h1 : n ≤ 65536) (hv : ∀ v ∈ vs, v.cells = #[v])
    (hT : Try.prog.underlying t = some (.slice e) ∧ (Try.prog.info? e).map (fun i => (i.size, i.zero)) = some (1, some z)) (hz : z.cells.size = 1)
    (H : Heap W l w) (h : ∀ p w', Heap W (Cel p vs.toArray e :: l) w' → wpList Try.prog ops Q rest (a.put dst (.slice (some ⟨p, 0, none⟩) n n)) w') : wpList Try.prog ops Q (⟨dst, .buildSlice t n xs.toArray, ty, pos, after, guard⟩ :: rest) a w := by
  obtain ⟨i, hi, he⟩ := Option.map_eq_some_iff.1 hT.2
  simp only [Prod.mk.injEq] at he
  have r1 : (sizeOf e).run Try.prog w = .ok 1 w := by simp [sizeOf, typeInfo, hi, he.1, go_sem]
  have r2 : (zeroValue e).run Try.prog w = .ok z w := by simp [zeroValue, typeInfo, hi, he.2, go_sem]
  have hf : Instr.fill (fun i => some (i * 1, 1)) (Array.map (fun x => z.cells[x % z.cells.size]!) (Array.range (n * 1))) (xs.toArray.map (fun (i, x) => (i, a.eval x))).toList = some vs.toArray := by
    have hx2 : (xs.toArray.map (fun (i, x) => (i, a.eval x))).toList = vs.zipIdx.map fun (v, i) => (i, v) := by rw [← hx]; simp
    rw [hx2]
    have := fill_ones vs 0 [] (List.map (fun x => z.cells[x % z.cells.size]!) (List.range (n * 1))) rfl (by simp [hn]) hv
    simp only [List.nil_append] at this
    rw [← this]
    congr 1
    apply Array.ext'
    simp
  refine BigFrame.wpList_want hw fun K hK => ?_
  have hrun : (Instr.buildSlice t n (xs.toArray.map fun (i, x) => (i, a.eval x))).run Try.prog w = .ok (.slice (some ⟨w.heap.size, 0, none⟩) n n) (w.alloc (.cells vs.toArray e)) := by
    unfold Instr.buildSlice
    rw [Sem.run_bind, run_underlying hT.1]
    simp only [Result.andThen_ok]
    rw [Sem.run_bind, r1]
    simp only [Result.andThen_ok]
    rw [if_neg (by omega), if_neg (by omega)]
    simp only [Sem.run_bind, r2, Result.andThen_ok, Sem.run_pure]
    rw [hf]
    simp [newRow, go_sem]
  unfold Oper.wp execOp
  simp only [Sem.run_bind, hrun, Result.andThen_ok, Sem.run_pure]
  exact hK _ _ (h _ _ (H.alloc _ _))
theorem rd_block {w : World} {b o : Nat} {xs : List Value} (R : Rd w (some ⟨b, o, none⟩) xs) {k n : Nat} (hn : k + n ≤ xs.length) (h0 : 0 < n) :
    ∃ cs t f, w.heap[b]? = some (.cells cs t f) ∧ o + k + n ≤ cs.size ∧ cs.extract (o + k) (o + k + n) = ((xs.drop k).take n).toArray := by
  have hc := R.get (i := k) (by omega)
  simp only [World.cell?, if_true] at hc
  cases hb : w.heap[b]? with
  | none => rw [hb] at hc; cases hc
  | some ob =>
    rw [hb] at hc
    cases ob <;> first | (cases hc; done) | skip
    rename_i cs t f
    have hget : ∀ i, i < xs.length → cs[o + i]? = xs[i]? := by
      intro i hi
      have h1 := R.get hi
      simp only [World.cell?, if_true, hb] at h1
      have h2 : cs[o + i]? = some xs[i] := by simpa using h1
      rw [h2]; simp [hi]
    have hlast := hget (k + n - 1) (by omega)
    have hsz : o + (k + n - 1) < cs.size := by
      rw [List.getElem?_eq_getElem (by omega)] at hlast
      exact (Array.getElem?_eq_some_iff.1 hlast).1
    refine ⟨cs, t, f, rfl, by omega, ?_⟩
    apply Array.ext_getElem?
    intro j
    rw [Array.getElem?_extract]
    by_cases hj : j < n
    · rw [if_pos (by omega), show o + k + j = o + (k + j) by omega, hget _ (by omega)]
      simp [List.getElem?_take, hj]
    · rw [if_neg (by omega)]
      simp [List.getElem?_take, hj]
theorem wpl_loadRdR {T n : Nat} {z : Array Value} {dst : Option Tmp} {ty : TypeId} {pos : String} {after : Array Edge} {guard : Option (Nat × Bool)} {x : Operand} {b off : Nat} (RT : RowTy T n z) (hw : Region.wanted ⟨dst, .load T x, ty, pos, after, guard⟩ (yielded ops a.tmps) = true) (hx : a.eval x = .pointer (some ⟨b, off, none⟩))
    {o k : Nat} {xs : List Value} {c1 : Array Value} (R : Rd w (some ⟨b, o, none⟩) xs) (hk : off = o + k) (hn : k + n ≤ xs.length) (h0 : 0 < n) (hv : ((xs.drop k).take n).toArray = c1) (h : wpList Try.prog ops Q rest (a.put dst (.agg c1)) w) : wpList Try.prog ops Q (⟨dst, .load T x, ty, pos, after, guard⟩ :: rest) a w := by
  subst hk
  obtain ⟨cs, t, f, hb, hs, he⟩ := rd_block R hn h0
  exact wpl_loadR RT hw hx hb hs (he.trans hv) h
end
end Go.Proofs.Ytacglcpjbepfnaa

/- Slices of one's own over a memory of things: rows that grow by append. -/
namespace Go.Proofs.Ytacglcpjbepfnaa
open Go.RowKit
set_option linter.unusedSimpArgs false
set_option linter.unusedVariables false
theorem slTy_mk {P : Program} {t e size bytes : Nat} {z : Value} (h1 : P.underlying t = some (.slice e)) (h2 : (P.info? e).map (fun i => (i.zero, i.size, i.bytes)) = some (some z, size, bytes))
    (h3 : z.cells.size = size) (h4 : 0 < size) : SlTy P t e size bytes z := by
  obtain ⟨j, hj, he⟩ := Option.map_eq_some_iff.1 h2
  simp only [Prod.mk.injEq] at he
  exact ⟨h1, ⟨j, hj, he.1, he.2.1, he.2.2⟩, h3, h4⟩
def OneCells (cs : List Value) : Prop := ∀ u ∈ cs, u.oneCell' = true
theorem ownsRow_fp {w : World} {b e size : Nat} {v : Value} {n : Nat} {xs : List Value} (h : w.ownsRow b e size v n xs) : ∀ k, v.ownBlock = some k → b ≤ k ∧ k < w.heap.size := by
  obtain ⟨h1, ⟨rfl, _⟩ | ⟨g, cap, cur, rfl, hg, hh, r⟩⟩ := h
  · intro k hk; cases hk
  · intro k hk
    obtain rfl : g = k := by simpa [Value.ownBlock] using hk
    exact ⟨hg, (Array.getElem?_eq_some_iff.1 hh).1⟩
theorem Heap.celRd {W w : World} {l : List Thing} (H : Heap W l w) {p : Nat} {c : Array Value} {t : TypeId} (m : Cel p c t ∈ l) : Rd w (some ⟨p, 0, none⟩) c.toList := by
  intro i hi
  refine ⟨p, 0, rfl, ?_⟩
  rw [cell_of_row w p (0 + i) c t _ (H.blk m)]
  simp at hi
  simp [hi]
/-- A nil slice is a row of nothing. -/
theorem Heap.nilRow {W w : World} {l : List Thing} (e size : Nat) (H : Heap W l w) : Heap W (RowT e size (.slice none 0 0) 0 [] :: l) w :=
  H.add (World.grownBy.refl _ _) ⟨by simp, .inl ⟨rfl, rfl⟩⟩ (fun k hk => by cases hk)
section
variable {ops : Array Oper} {rest : List Oper} {o : Oper} {a : Act} {w W : World} {l : List Thing} {Q : Exit → Act → World → Prop}
/-- append(s, x...) to a row of one's own. -/
theorem wpl_appendH {t e size bytes : Nat} {z : Value} (T : SlTy Try.prog t e size bytes z) (hgd : o.guard = none) {s x : Operand}
    (ho : o.op = .call { callee := .builtin .append, args := #[s, x], argTypes := #[t, t] }) {v : Value} (hs : a.eval s = v) {b off m c : Nat} (hx : a.eval x = .slice (some ⟨b, off, none⟩) m c)
    {n : Nat} {xs news : List Value} (H : Heap W (RowT e size v n xs :: l) w) (hrd : Rd w (some ⟨b, off, none⟩) news) (hl : news.length = m * size) (h1 : OneCells news)
    (h63 : n + m ≤ maxLen) (hbytes : (n + m) * bytes ≤ 140737488355328)
    (h : ∀ v' w', Heap W (RowT e size v' (n + m) (xs ++ news) :: l) w' → wpList Try.prog ops Q rest (a.put o.dst v') w') : wpList Try.prog ops Q (o :: rest) a w := by
  refine wpl_appendB hgd s x t ho T 0 v n xs hs (H.ok _ List.mem_cons_self) b off m c news hx hl hrd h1 h63 hbytes (Nat.zero_le _) ?_
  intro v' w' hown hg hbl
  refine h v' w' (H.head hg hown ?_)
  rcases hbl with hbl | hbl
  · exact .inl hbl
  · refine .inr fun k hk => ?_
    have h2 := ownsRow_fp hown k hk
    have hk' : v'.ownBlock = some k := hk
    rw [hbl] at hk'
    cases hk'
    exact ⟨Nat.le_refl _, h2.2⟩
end
end Go.Proofs.Ytacglcpjbepfnaa
