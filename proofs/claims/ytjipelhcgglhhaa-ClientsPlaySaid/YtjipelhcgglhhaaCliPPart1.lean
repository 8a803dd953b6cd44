/- Part 1 of what ProofClientsPlay stands on: Bits, Base, Open, Shape, ShapeW, Open27, Ext, Tail, Row. -/
import Derived.WalkKit
import Derived.WalkSpells
import Derived.Handy
import Derived.Lib.Hide
import Derived.Laws.BytesArg
import Derived.Laws.BytesString
import Derived.ProofKit
import Derived.OpenShut
import Derived.ChangeOld
import Derived.Test.YtjipelhcgglhhaaProg
import Derived.Lib.SmallJoins
import Derived.Deep.QuietTactic
import Derived.BigQuiet
import Derived.StillTail
import Derived.Laws.Rows
import Derived.Laws.IdiomCopy
import Derived.Deep.MidRow
/- Numbers of 8 and 32 bits as the walk spells them: each bit operation on I8, I32 is the operation on bit vectors. -/
namespace Go.Proofs.Ytjipelhcgglhhaa
open Go.RowKit

def I32 (x : BitVec 32) : Int := x.toNat
def I8 (x : BitVec 8) : Int := x.toNat
/-- The cells from an address on (if there is one at all) hold these values. -/
def Rd (w : World) (a : Option Addr) (xs : List Value) : Prop := ∀ i (h : i < xs.length), ∃ b o, a = some ⟨b, o, none⟩ ∧ w.cell? ⟨b, o + i, none⟩ = some xs[i]
end Go.Proofs.Ytjipelhcgglhhaa

/- Slices as lists of cells: readable rows (Rd), rows in new memory (Own), and the laws by which append, make and slicing act on them. -/
namespace Go.Proofs.Ytjipelhcgglhhaa
open Go.RowKit
set_option linter.unusedVariables false
set_option linter.unusedSimpArgs false

theorem Rd.nil (w : World) (a : Option Addr) : Rd w a [] := fun i h => by simp at h
theorem Rd.lt {w : World} {a : Option Addr} {xs : List Value} (h : Rd w a xs) (hx : 0 < xs.length) : ∃ b o, a = some ⟨b, o, none⟩ ∧ b < w.heap.size := by
  obtain ⟨b, o, e, hc⟩ := h 0 hx
  exact ⟨b, o, e, by simpa using World.block_lt_of_cell? w _ hc⟩
theorem Rd.get {w : World} {b o : Nat} {sp : Option Nat} {xs : List Value} (h : Rd w (some ⟨b, o, sp⟩) xs) {i : Nat} (hi : i < xs.length) : w.cell? ⟨b, o + i, none⟩ = some xs[i] := by
  obtain ⟨b', o', e, hc⟩ := h i hi
  simp only [Option.some.injEq, Addr.mk.injEq] at e
  obtain ⟨rfl, rfl, _⟩ := e
  exact hc
theorem Rd.same {w w' : World} {a : Option Addr} {xs : List Value} (h : Rd w a xs) (hb : ∀ b o sp, a = some ⟨b, o, sp⟩ → w'.heap[b]? = w.heap[b]?) : Rd w' a xs := by
  intro i hi
  obtain ⟨b, o, e, hc⟩ := h i hi
  refine ⟨b, o, e, ?_⟩
  rw [World.cell?_of_block (w := w) (a := ⟨b, o + i, none⟩) (hb b o none e)]; exact hc
theorem Rd.blocks {w w' : World} {B : Nat} {a : Option Addr} {xs : List Value} (h : Rd w a xs) (hb : ∀ k, k < B → w'.heap[k]? = w.heap[k]?) (hB : ∀ b o sp, a = some ⟨b, o, sp⟩ → b < B) : Rd w' a xs :=
  h.same fun b o sp e => hb b (hB b o sp e)
/-- What could be read ahead of a call that writes nothing old can be read behind it. -/
theorem Rd.below {w w' : World} {a : Option Addr} {xs : List Value} (h : Rd w a xs) (hb : Below w.heap.size w w') : Rd w' a xs := by
  intro i hi
  obtain ⟨b, o, e, hc⟩ := h i hi
  refine ⟨b, o, e, ?_⟩
  have hlt : b < w.heap.size := by simpa using World.block_lt_of_cell? w _ hc
  rw [World.cell?_of_block (w := w) (a := ⟨b, o + i, none⟩) (hb.block b hlt)]; exact hc
theorem Rd.take {w : World} {a : Option Addr} {xs : List Value} (h : Rd w a xs) (n : Nat) : Rd w a (xs.take n) := by
  intro i hi
  have hi' : i < xs.length := by simp at hi; omega
  obtain ⟨b, o, e, hc⟩ := h i hi'
  exact ⟨b, o, e, by rw [hc]; simp⟩
theorem Rd.drop {w : World} {b o : Nat} {sp : Option Nat} {xs : List Value} (h : Rd w (some ⟨b, o, sp⟩) xs) (n : Nat) : Rd w (some ⟨b, o + n, none⟩) (xs.drop n) := by
  intro i hi
  have hi' : n + i < xs.length := by simp at hi; omega
  refine ⟨b, o + n, rfl, ?_⟩
  have := h.get hi'
  rw [show o + n + i = o + (n + i) by omega, this]; simp
/-- A block's own cells, from some place on. -/
theorem Rd.ofBlock {w : World} {g off : Nat} {cur : Array Value} {e : TypeId} {fz : Nat × Nat} (h : w.heap[g]? = some (.cells cur e fz)) (xs : List Value)
    (hx : ∀ i (hi : i < xs.length), cur[off + i]? = some xs[i]) : Rd w (some ⟨g, off, none⟩) xs := by
  intro i hi
  refine ⟨g, off, rfl, ?_⟩
  simp only [World.cell?, h]
  simpa using hx i hi

theorem Rd.alloc {w : World} {a : Option Addr} {xs : List Value} (h : Rd w a xs) (o : Obj) : Rd (w.alloc o) a xs := h.below ((Below.refl _ _).alloc (Nat.le_refl _) _)
theorem Rd.drew {w : World} {a : Option Addr} {xs : List Value} (h : Rd w a xs) : Rd w.drew a xs := h.below (Below.refl _ _).drew

/-- A row in memory from block 'base' on, that nobody froze: its values are xs. -/
def Own (w : World) (base : Nat) (e : TypeId) (size : Nat) (v : Value) (n : Nat) (xs : List Value) : Prop :=
  xs.length = n * size ∧ ((v = .slice none 0 0 ∧ n = 0) ∨
    ∃ g off cap cur, v = .slice (some ⟨g, off, none⟩) n cap ∧ base ≤ g ∧ w.heap[g]? = some (.cells cur e (0, 0)) ∧ n ≤ cap ∧ cap ≤ maxLen ∧ off + cap * size ≤ cur.size ∧ (cur.toList.drop off).take (n * size) = xs)

theorem Own.ofRow {w : World} {base : Nat} {e : TypeId} {size : Nat} {v : Value} {n : Nat} {xs : List Value} (h : w.ownsRow base e size v n xs) : Own w base e size v n xs := by
  refine ⟨h.1, ?_⟩
  rcases h.2 with h2 | ⟨g, cap, cur, r1, r2, r3, r4, r5, r6, r7⟩
  · exact .inl h2
  · exact .inr ⟨g, 0, cap, cur, r1, r2, r3, r4, r5, by omega, by simpa using r7⟩
theorem Own.rd {w : World} {base : Nat} {e : TypeId} {size : Nat} {v : Value} {n : Nat} {xs : List Value} (h : Own w base e size v n xs) :
    ∃ ao c, v = .slice ao n c ∧ Rd w ao xs ∧ n ≤ c ∧ c ≤ maxLen ∧ (∀ b o sp, ao = some ⟨b, o, sp⟩ → base ≤ b ∧ b < w.heap.size) := by
  rcases h.2 with ⟨rfl, rfl⟩ | ⟨g, off, cap, cur, rfl, hb, hg, hn, hm, hs, hx⟩
  · have := h.1
    simp at this
    subst this
    exact ⟨none, 0, rfl, Rd.nil _ _, Nat.le_refl _, by unfold maxLen; omega, fun b o sp e => by cases e⟩
  · have hl := h.1
    refine ⟨_, cap, rfl, Rd.ofBlock hg xs (fun i hi => ?_), hn, hm, fun b o sp e => ?_⟩
    · subst hx
      simp only [List.length_take, List.length_drop, Array.length_toList] at hi
      simp only [List.getElem_take, List.getElem_drop, Array.getElem_toList]
      rw [Array.getElem?_eq_getElem]
    · simp only [Option.some.injEq, Addr.mk.injEq] at e
      obtain ⟨rfl, _⟩ := e
      exact ⟨hb, (Array.getElem?_eq_some_iff.1 hg).1⟩
theorem Own.same {w w' : World} {base : Nat} {e : TypeId} {size : Nat} {v : Value} {n : Nat} {xs : List Value} (h : Own w base e size v n xs)
    (hk : ∀ k, v.ownBlock = some k → w'.heap[k]? = w.heap[k]?) : Own w' base e size v n xs := by
  refine ⟨h.1, ?_⟩
  rcases h.2 with h2 | ⟨g, off, cap, cur, rfl, hb, hg, r⟩
  · exact .inl h2
  · exact .inr ⟨g, off, cap, cur, rfl, hb, by rw [hk g rfl]; exact hg, r⟩
theorem Own.below {w w' : World} {base : Nat} {e : TypeId} {size : Nat} {v : Value} {n : Nat} {xs : List Value} (h : Own w base e size v n xs) (hb : Below w.heap.size w w') : Own w' base e size v n xs := by
  refine h.same fun k hk => ?_
  rcases h.2 with ⟨rfl, _⟩ | ⟨g, off, cap, cur, rfl, _, hg, _⟩
  · simp [Value.ownBlock] at hk
  · simp [Value.ownBlock] at hk
    subst hk
    exact hb.block _ (Array.getElem?_eq_some_iff.1 hg).1
theorem Own.mono {w : World} {base base' : Nat} {e : TypeId} {size : Nat} {v : Value} {n : Nat} {xs : List Value} (h : Own w base e size v n xs) (hb : base' ≤ base) : Own w base' e size v n xs := by
  refine ⟨h.1, ?_⟩
  rcases h.2 with h2 | ⟨g, off, cap, cur, r1, r2, r⟩
  · exact .inl h2
  · exact .inr ⟨g, off, cap, cur, r1, by omega, r⟩
/-- A store into one of the row's own cells. -/
theorem Own.set {w : World} {base : Nat} {e : TypeId} {size g off n c : Nat} {xs : List Value} (h : Own w base e size (.slice (some ⟨g, off, none⟩) n c) n xs) (j : Nat) (hj : j < n * size) (u : Value) :
    Own (w.setCell ⟨g, off + j, none⟩ u) base e size (.slice (some ⟨g, off, none⟩) n c) n (xs.set j u) := by
  refine ⟨by simpa using h.1, ?_⟩
  rcases h.2 with ⟨h', _⟩ | ⟨g', off', cap, cur, h', hb, hg, hn, hm, hs, hx⟩
  · simp at h'
  · simp only [Value.slice.injEq, Option.some.injEq, Addr.mk.injEq, and_true, true_and] at h'
    obtain ⟨⟨rfl, rfl⟩, rfl⟩ := h'
    refine .inr ⟨g, off, c, cur.setIfInBounds (off + j) u, rfl, hb, heap_setCell_same w g (off + j) cur e u hg, hn, hm, by simpa using hs, ?_⟩
    subst hx
    simp only [Array.toList_setIfInBounds]
    rw [List.drop_set, if_neg (by omega), show off + j - off = j by omega, List.take_set]
/-- What a slice type's row of the program's table says. -/
structure SlTy (P : Program) (t e size bytes : Nat) (z : Value) : Prop where
  und : P.underlying t = some (.slice e)
  inf : ∃ i, P.info? e = some i ∧ i.zero = some z ∧ i.size = size ∧ i.bytes = bytes
  zc : z.cells.size = size
  pos : 0 < size

theorem addr_add (b o j : Nat) : (⟨b, o, none⟩ : Addr).add j = ⟨b, o + j, none⟩ := by
  unfold Addr.add; split <;> simp_all

theorem run_append_none {P : Program} (w : World) {t e size bytes : Nat} {z : Value} (T : SlTy P t e size bytes z) (ty : TypeId) (v : Value) (n : Nat) (base : Nat) (xs : List Value) (hown : w.ownsRow base e size v n xs) (c : Nat) :
    (Builtin.append_ #[t, t] ty #[v, .slice none 0 c]).run P w = .ok v w := by
  obtain ⟨i, hi, hz, hs, hb⟩ := T.inf
  rcases hown.2 with ⟨rfl, rfl⟩ | ⟨g, cap, cur, rfl, _, _, hnc, _⟩
  · simp [Builtin.append_, run_underlying T.und, sizeOf, typeInfo, hi, Builtin.lenOf, Builtin.firstCells]
  · simp [Builtin.append_, run_underlying T.und, sizeOf, typeInfo, hi, Builtin.lenOf, Builtin.firstCells, hnc, storeCells]

/-- append(s, x...): s a row of the call's own (or nil), x whatever row can be read. -/
theorem wpl_append {P : Program} {w : World} {ops : Array Oper} {rest : List Oper} {o : Oper} {a : Act} {Q : Exit → Act → World → Prop} (hgd : o.guard = none) (s x : Operand) (t : TypeId)
    (ho : o.op = .call { callee := .builtin .append, args := #[s, x], argTypes := #[t, t] })
    {e size bytes : Nat} {z : Value} (T : SlTy P t e size bytes z) (base : Nat)
    (v : Value) (n : Nat) (xs : List Value) (hs : a.eval s = v) (hown : w.ownsRow base e size v n xs)
    (ao : Option Addr) (m c : Nat) (news : List Value) (hx : a.eval x = .slice ao m c) (hl : news.length = m * size) (hrd : Rd w ao news) (h1 : ∀ u ∈ news, u.oneCell' = true)
    (h63 : n + m ≤ maxLen) (hbytes : (n + m) * bytes ≤ 140737488355328) (hbase : base ≤ w.heap.size)
    (h : ∀ v' w', w'.ownsRow base e size v' (n + m) (xs ++ news) → w.grownBy w' v.ownBlock → (v' = .slice none 0 0 ↔ v = .slice none 0 0 ∧ m = 0) → wpList P ops Q rest (a.put o.dst v') w') : wpList P ops Q (o :: rest) a w := by
  obtain ⟨i, hi, hz, hsz, hb⟩ := T.inf
  have hpos := T.pos
  rcases ao with _ | ⟨b, off, sp⟩
  · have hm : m = 0 := by
      rcases Nat.eq_zero_or_pos news.length with h0 | h0
      · rw [h0] at hl
        rcases Nat.eq_zero_or_pos m with h' | h'
        · exact h'
        · have := Nat.mul_pos h' hpos; omega
      · obtain ⟨b, o, e, _⟩ := hrd 0 h0
        cases e
    subst hm
    have hne : news = [] := List.eq_nil_of_length_eq_zero (by simpa using hl)
    subst hne
    refine wpList_plain hgd fun K hK => ?_
    have hrun := run_append_none w T o.type v n base xs hown c
    unfold Oper.wp
    simp [execOp, ho, resolve, invoke, builtin, hs, hx, hrun, Result.andThen]
    exact hK _ _ (by simpa using h v w (by simpa using hown) (World.grownBy.refl _ _) (by simp))
  · refine wpList_append_own w hgd s x t ho base e i z size bytes T.und hi hz hsz hb T.zc T.pos v n xs hs hown ⟨b, off, sp⟩ m c news hx hl ?_ h1 h63 hbytes hbase h
    intro j u hu
    obtain ⟨hj, rfl⟩ := List.getElem?_eq_some_iff.1 hu
    obtain ⟨b', o', e', hc⟩ := hrd j hj
    simp only [Option.some.injEq, Addr.mk.injEq] at e'
    obtain ⟨rfl, rfl, rfl⟩ := e'
    rw [addr_add]; exact hc

theorem Rd.addr {w : World} {a : Addr} {xs : List Value} (h : Rd w (some a) xs) : ∀ j v, xs[j]? = some v → w.cell? (a.add j) = some v := by
  intro j v hv
  obtain ⟨hj, rfl⟩ := List.getElem?_eq_some_iff.1 hv
  obtain ⟨b, o, e, hc⟩ := h j hj
  obtain rfl := Option.some.inj e
  rw [addr_add]; exact hc
/-- Behind an append the row lies where it lay, or in a new block. -/
theorem run_append_block {P : Program} (w : World) {t e size bytes : Nat} {z : Value} (T : SlTy P t e size bytes z) (ty : TypeId) (base : Nat)
    (v : Value) (n : Nat) (xs : List Value) (hown : w.ownsRow base e size v n xs) (a : Addr) (m c : Nat) (news : List Value) (hl : news.length = m * size) (hnews : ∀ j u, news[j]? = some u → w.cell? (a.add j) = some u) (h1 : ∀ u ∈ news, u.oneCell' = true)
    (h63 : n + m ≤ maxLen) (hbytes : (n + m) * bytes ≤ 140737488355328) :
    ∃ v' w', (Builtin.append_ #[t, t] ty #[v, .slice (some a) m c]).run P w = .ok v' w' ∧ (v'.ownBlock = v.ownBlock ∨ v'.ownBlock = some w.heap.size) := by
  obtain ⟨i, hi, hz, hsz, hb⟩ := T.inf
  subst hsz
  subst hb
  have hsmall : n + m ≤ 9223372036854775807 := by simp only [maxLen] at h63; omega
  rcases hown.2 with ⟨rfl, rfl⟩ | ⟨g, cap, cur, rfl, hbg, hg, hnc, hcm, hcs, htake⟩
  · by_cases hm : m = 0
    · subst hm
      have hn : news = [] := List.eq_nil_of_length_eq_zero (by simpa using hl)
      subst hn
      refine ⟨.slice none 0 0, w, ?_, .inl rfl⟩
      simp [Builtin.append_, run_underlying T.und, sizeOf, typeInfo, hi, Builtin.lenOf, Builtin.firstCells, loadCells, loadCellsFrom]
    · exact ⟨_, _, run_append_nil (P := P) w t ty e i z T.und hi hz a m c news hl hnews (by omega) (by omega) (by have hb := hbytes; simp only [Nat.zero_add] at hb; omega), .inr rfl⟩
  · by_cases hroom : n + m ≤ cap
    · have hfit : n * i.size + news.length ≤ cur.size := by rw [hl, hcs, ← Nat.add_mul]; exact Nat.mul_le_mul_right _ hroom
      exact ⟨_, _, run_append_room (P := P) w t ty e i T.und hi g n cap cur hg a m c news hl hnews h1 hroom hfit, .inl rfl⟩
    · have holds : ∀ j u, xs[j]? = some u → w.cell? ((⟨g, 0, none⟩ : Addr).add j) = some u := hown.cells (g := g) rfl
      exact ⟨_, _, run_append_grow (P := P) w t ty e i z T.und hi hz ⟨g, 0, none⟩ n cap xs hown.1 holds a m c news hl hnews (by omega) (by omega) (growslice_fits (by omega) hbytes), .inr rfl⟩
/-- append(s, x...), with the word on where the row lies then. -/
theorem wpl_appendB {P : Program} {w : World} {ops : Array Oper} {rest : List Oper} {o : Oper} {a : Act} {Q : Exit → Act → World → Prop} (hgd : o.guard = none) (s x : Operand) (t : TypeId)
    (ho : o.op = .call { callee := .builtin .append, args := #[s, x], argTypes := #[t, t] })
    {e size bytes : Nat} {z : Value} (T : SlTy P t e size bytes z) (base : Nat)
    (v : Value) (n : Nat) (xs : List Value) (hs : a.eval s = v) (hown : w.ownsRow base e size v n xs)
    (b off m c : Nat) (news : List Value) (hx : a.eval x = .slice (some ⟨b, off, none⟩) m c) (hl : news.length = m * size) (hrd : Rd w (some ⟨b, off, none⟩) news) (h1 : ∀ u ∈ news, u.oneCell' = true)
    (h63 : n + m ≤ maxLen) (hbytes : (n + m) * bytes ≤ 140737488355328) (hbase : base ≤ w.heap.size)
    (h : ∀ v' w', w'.ownsRow base e size v' (n + m) (xs ++ news) → w.grownBy w' v.ownBlock → (v'.ownBlock = v.ownBlock ∨ v'.ownBlock = some w.heap.size) → wpList P ops Q rest (a.put o.dst v') w') : wpList P ops Q (o :: rest) a w := by
  obtain ⟨i, hi, hz, hsz, hb⟩ := T.inf
  have hnews := hrd.addr
  obtain ⟨v1, w1, hr1, hbl⟩ := run_append_block w T o.type base v n xs hown ⟨b, off, none⟩ m c news hl hnews h1 h63 hbytes
  obtain ⟨v', w', hr, h2, h3, h4⟩ := run_append_own (P := P) w base t o.type e i z size bytes T.und hi hz hsz hb T.zc T.pos v n xs hown ⟨b, off, none⟩ m c news hl hnews h1 h63 hbytes hbase
  rw [hr1] at hr
  simp only [Result.ok.injEq] at hr
  obtain ⟨rfl, rfl⟩ := hr
  refine wpList_plain hgd fun K hK => ?_
  unfold Oper.wp execOp
  simp only [ho, resolve, invoke, builtin, Sem.run_bind, Sem.run_pure, Result.andThen_ok, List.map_toArray, List.map_cons, List.map_nil, hs, hx, hr1]
  exact hK _ _ (h _ _ h2 h3 hbl)

/-- Where s[lo:hi] begins. -/
def cutA (a : Option Addr) (cap lo size : Nat) : Option Addr := if cap = lo then a else a.map (fun x => x.add (lo * size))
theorem Rd.cutA {w : World} {a : Option Addr} {xs : List Value} (h : Rd w a xs) (cap lo hi size : Nat) (hh : hi ≤ cap) : Rd w (cutA a cap lo size) ((xs.drop (lo * size)).take ((hi - lo) * size)) := by
  unfold Proofs.Ytjipelhcgglhhaa.cutA
  split
  · rename_i hc
    subst hc
    rw [show hi - cap = 0 by omega]
    simpa using Rd.nil _ _
  · refine Rd.take ?_ _
    intro i hi
    have hi' : lo * size + i < xs.length := by simp at hi; omega
    obtain ⟨b, o, rfl, hc⟩ := h (lo * size + i) hi'
    exact ⟨b, o + lo * size, by simp [addr_add], by rw [Nat.add_assoc, hc]; simp⟩
theorem run_cut {P : Program} {t e size bytes : Nat} {z : Value} (T : SlTy P t e size bytes z) (a : Option Addr) (len cap lo hi : Nat) (k1 k2 : IntKind) (h1 : lo ≤ hi) (h2 : hi ≤ cap) (w : World) :
    (Instr.slice t (.slice a len cap) (some (.int k1 (lo : Int))) (some (.int k2 (hi : Int))) none).run P w = .ok (.slice (cutA a cap lo size) (hi - lo) (cap - lo)) w := by
  obtain ⟨i, hi', hz, hs, hb⟩ := T.inf
  simp [Instr.slice, Instr.sliceBounds, Instr.sliceBound, run_underlying T.und, asIntOf, sizeOf, typeInfo, hi', hs, cutA, h1, h2, go_sem]
theorem run_cutTo {P : Program} {t e size bytes : Nat} {z : Value} (T : SlTy P t e size bytes z) (a : Option Addr) (len cap hi : Nat) (k2 : IntKind) (h2 : hi ≤ cap) (w : World) :
    (Instr.slice t (.slice a len cap) none (some (.int k2 (hi : Int))) none).run P w = .ok (.slice a hi cap) w := by
  obtain ⟨i, hi', hz, hs, hb⟩ := T.inf
  simp [Instr.slice, Instr.sliceBounds, Instr.sliceBound, run_underlying T.und, asIntOf, sizeOf, typeInfo, hi', h2, go_sem]
end Go.Proofs.Ytjipelhcgglhhaa

/- How an argument's reading gives what a walk asks of it. -/
namespace Go.Proofs.Ytjipelhcgglhhaa
open Go.ChangeShapes Go.WideShapes Go.ChangeAt Go.RowKit

theorem Rd.ofCells {w : World} {x : Addr} {xs : List Value} (h : ∀ i, (hi : i < xs.length) → w.cell? (x.add i) = some xs[i]) : Rd w (some x) xs := by
  obtain ⟨b, o, sp⟩ := x
  intro i hi
  have h0 := h 0 (by omega)
  have hsp : sp = none := by
    rcases sp with _ | s
    · rfl
    · simp only [Addr.add, if_true, World.cell?] at h0
      split at h0 <;> simp at h0
  subst hsp
  exact ⟨b, o, rfl, by rw [← addr_add]; exact h i hi⟩

end Go.Proofs.Ytjipelhcgglhhaa

/- Arguments of whatever type, opened: a value's cells are those of its parts, one behind the other; a slice's elements likewise, however deep. -/
namespace Go.Proofs.Ytjipelhcgglhhaa
open Go.ChangeShapes Go.WideShapes Go.ChangeAt Go.RowKit
set_option linter.unusedVariables false
set_option linter.unusedSimpArgs false

/-- The parts of fields, one behind the other; none, if they do not lie so. -/
def flatFs (P : Program) (g : TypeId → Option (List TypeId)) : Nat → List Field → Option (List TypeId)
  | _, [] => some []
  | o, f :: fs => (g f.type).bind fun ts => if f.offset = o ∧ ts.length = P.cellsOf f.type then (flatFs P g (o + ts.length) fs).map (ts ++ ·) else none
def repFlat (ts : List TypeId) : Nat → List TypeId
  | 0 => []
  | n + 1 => ts ++ repFlat ts n
/-- The one-cell parts of a type. -/
def flat (P : Program) : Nat → TypeId → Option (List TypeId)
  | 0, _ => none
  | d + 1, t => match P.underlying t with
    | some (.int _) => some [t]
    | some .bool => some [t]
    | some (.slice _) => some [t]
    | some (.struct fs) => (flatFs P (flat P d) 0 fs.toList).bind fun ts => if ts.length = P.cellsOf t then some ts else none
    | some (.array n e) => (flat P d e).bind fun ts => if ts.length = P.cellsOf e ∧ n * ts.length = P.cellsOf t then some (repFlat ts n) else none
    | _ => none
section
variable {H : Type} {enc : TypeId × Value → H} {P : Program} {w : World} {base : Nat} {spare : Nat → Bool} {held : Bool}
/-- What a cell of such a part holds. -/
def PartOk (enc : TypeId × Value → H) (P : Program) (w : World) (base : Nat) (spare : Nat → Bool) (held : Bool) (u : TypeId) (v : Value) : Prop := ∃ m y, DataW.trod enc P w base spare held m u [v] = some y
theorem flatFs_spec {g : TypeId → Option (List TypeId)}
    (hg : ∀ (t : TypeId) (ts : List TypeId), g t = some ts → ∀ (fuel : Nat) (cs : List Value) (x : DataW H × List MemPlace), DataW.trod enc P w base spare held fuel t cs = some x → cs.length = ts.length ∧ ∀ (i : Nat) (u : TypeId), ts[i]? = some u → ∃ v, cs[i]? = some v ∧ PartOk enc P w base spare held u v) (cs : List Value) :
    ∀ (fs : List Field) (o : Nat) (ts : List TypeId), flatFs P g o fs = some ts → (∀ f ∈ fs, ∃ n y, DataW.trod enc P w base spare held n f.type ((cs.drop f.offset).take (P.cellsOf f.type)) = some y) →
      ∀ (i : Nat) (u : TypeId), ts[i]? = some u → ∃ v, cs[o + i]? = some v ∧ PartOk enc P w base spare held u v := by
  intro fs
  induction fs with
  | nil =>
    intro o ts h _ i u hu
    simp [flatFs] at h
    subst h
    simp at hu
  | cons f fs ih =>
    intro o ts h hall i u hu
    simp only [flatFs, Option.bind_eq_some_iff] at h
    obtain ⟨t1, h1, h2⟩ := h
    split at h2
    · rename_i hc
      obtain ⟨t2, h3, rfl⟩ := Option.map_eq_some_iff.1 h2
      obtain ⟨n, y, hy⟩ := hall f (List.mem_cons_self ..)
      obtain ⟨hl, hp⟩ := hg _ _ h1 _ _ _ hy
      by_cases hi : i < t1.length
      · rw [List.getElem?_append_left hi] at hu
        obtain ⟨v, hv, hk⟩ := hp i u hu
        refine ⟨v, ?_, hk⟩
        rw [hc.1, List.getElem?_take] at hv
        split at hv
        · rw [List.getElem?_drop] at hv; exact hv
        · cases hv
      · rw [List.getElem?_append_right (by omega)] at hu
        obtain ⟨v, hv, hk⟩ := ih _ _ h3 (fun f hf => hall f (List.mem_cons_of_mem _ hf)) _ _ hu
        exact ⟨v, by rw [← hv]; congr 1; omega, hk⟩
    · cases h2
theorem repFlat_len (ts : List TypeId) : ∀ n, (repFlat ts n).length = n * ts.length
  | 0 => by simp [repFlat]
  | n + 1 => by simp [repFlat, repFlat_len ts n, Nat.add_mul]; omega
theorem repFlat_spec {cs : List Value} {ts : List TypeId} {L : Nat} (hL : ts.length = L) (e : TypeId) :
    ∀ (n k : Nat), (∀ (i : Nat), i < n → ∀ (j : Nat) (u : TypeId), ts[j]? = some u → ∃ v, ((cs.drop ((k + i) * L)).take L)[j]? = some v ∧ PartOk enc P w base spare held u v) →
      ∀ (i : Nat) (u : TypeId), (repFlat ts n)[i]? = some u → ∃ v, cs[k * L + i]? = some v ∧ PartOk enc P w base spare held u v := by
  intro n
  induction n with
  | zero => intro k _ i u hu; simp [repFlat] at hu
  | succ n ih =>
    intro k hall i u hu
    simp only [repFlat] at hu
    by_cases hi : i < ts.length
    · rw [List.getElem?_append_left hi] at hu
      obtain ⟨v, hv, hk⟩ := hall 0 (by omega) i u hu
      refine ⟨v, ?_, hk⟩
      rw [List.getElem?_take] at hv
      split at hv
      · rw [List.getElem?_drop] at hv; simpa using hv
      · cases hv
    · rw [List.getElem?_append_right (by omega)] at hu
      obtain ⟨v, hv, hk⟩ := ih (k + 1) (fun i hi j u hu => by have := hall (i + 1) (by omega) j u hu; rwa [show k + (i + 1) = k + 1 + i by omega] at this) _ _ hu
      exact ⟨v, by rw [← hv]; congr 1; rw [Nat.add_mul]; omega, hk⟩
theorem flat_spec : ∀ (d : Nat) (t : TypeId) (ts : List TypeId), flat P d t = some ts → ∀ (fuel : Nat) (cs : List Value) (x : DataW H × List MemPlace), DataW.trod enc P w base spare held fuel t cs = some x →
    cs.length = ts.length ∧ ∀ (i : Nat) (u : TypeId), ts[i]? = some u → ∃ v, cs[i]? = some v ∧ PartOk enc P w base spare held u v := by
  intro d
  induction d with
  | zero => intro t ts h; simp [flat] at h
  | succ d ih =>
    intro t ts h fuel cs x hx
    have one : ∀ v, cs = [v] → ts = [t] → cs.length = ts.length ∧ ∀ (i : Nat) (u : TypeId), ts[i]? = some u → ∃ v, cs[i]? = some v ∧ PartOk enc P w base spare held u v := by
      rintro v rfl rfl
      refine ⟨rfl, fun i u hu => ?_⟩
      rcases i with _ | i
      · simp at hu; subst hu; exact ⟨v, rfl, _, _, hx⟩
      · simp at hu
    unfold flat at h
    split at h
    · rename_i k hk
      obtain ⟨n, rfl, _⟩ := DataW.trod_int hk hx
      exact one _ rfl (by simpa using h.symm)
    · rename_i hk
      obtain ⟨n, rfl, _⟩ := DataW.trod_bool hk hx
      exact one _ rfl (by simpa using h.symm)
    · rename_i e hk
      rcases DataW.trod_slice hk hx with ⟨rfl, _⟩ | ⟨a, len, cap, elems, rest, n, _, rfl, _⟩
      · exact one _ rfl (by simpa using h.symm)
      · exact one _ rfl (by simpa using h.symm)
    · rename_i fs hk
      simp only [Option.bind_eq_some_iff] at h
      obtain ⟨t1, h1, h2⟩ := h
      split at h2
      · rename_i hl
        cases h2
        obtain ⟨xs, m, _, _, hlen, hxs, hf⟩ := DataW.trod_struct hk hx
        refine ⟨by rw [hlen, hl], fun i u hu => ?_⟩
        have := flatFs_spec (fun t ts h => ih t ts h) cs fs.toList 0 ts h1 (fun f hf' => by
          obtain ⟨j, hj, rfl⟩ := List.getElem_of_mem hf'
          have hj' : j < fs.size := by simpa using hj
          have h3 := hf j fs[j] (by simp [hj'])
          have hj2 : j < xs.length := by omega
          exact ⟨m, xs[j], by simpa [hj2] using h3⟩) i u hu
        simpa using this
      · cases h2
    · rename_i n e hk
      simp only [Option.bind_eq_some_iff] at h
      obtain ⟨t1, h1, h2⟩ := h
      split at h2
      · rename_i hl
        cases h2
        obtain ⟨xs, m, _, _, hlen, hxs, hf⟩ := DataW.trod_array hk hx
        refine ⟨by rw [hlen, repFlat_len, hl.2], fun i u hu => ?_⟩
        have := repFlat_spec (cs := cs) hl.1 e n 0 (fun i hi j u hu => by
          have h3 := hf i hi
          have hi2 : i < xs.length := by omega
          have h4 : DataW.trod enc P w base spare held m e ((cs.drop (i * P.cellsOf e)).take (P.cellsOf e)) = some xs[i] := by rw [h3]; simp [hi2]
          rw [Nat.zero_add]
          exact (ih e t1 h1 _ _ _ h4).2 j u hu) i u hu
        simpa using this
      · cases h2
    · cases h

theorem add_add (a : Addr) (m k : Nat) : (a.add m).add k = a.add (m + k) := by
  unfold Addr.add
  by_cases hm : m = 0
  · subst hm; simp
  · by_cases hk : k = 0
    · subst hk; simp
    · simp [hm, hk]; omega
/-- What a one-cell part holds, d slices deep. -/
def LeafOk (P : Program) (w : World) : Nat → TypeId → Value → Prop
  | 0, _, _ => True
  | d + 1, u, v => match P.underlying u with
    | some (.int k) => ∃ n, v = .int k n ∧ (Lit.int k n).wf = true
    | some .bool => ∃ b, v = .bool b
    | some (.slice e) => ∃ a n c xs, v = .slice a n c ∧ n ≤ c ∧ c ≤ maxLen ∧ xs.length = n * P.cellsOf e ∧ Rd w a xs ∧ (a = none → n = 0 ∧ c = 0) ∧
        ∀ ts : List TypeId, flat P 9 e = some ts → ∀ (i j : Nat) (u' : TypeId), i < n → ts[j]? = some u' → ∃ v', xs[i * P.cellsOf e + j]? = some v' ∧ LeafOk P w d u' v'
    | _ => True
theorem cells_get {a : Addr} {n : Nat} {cs : List Value} (h : w.cells? 0 a n = some cs) : cs.length = n ∧ ∀ i, i < n → w.cell? (a.add i) = cs[i]? := by
  unfold World.cells? at h
  rw [if_pos (Nat.zero_le _)] at h
  refine ⟨by simpa using mapM_some_length h, fun i hi => ?_⟩
  have := mapM_some_get h i i (by simp [hi])
  exact this
theorem leaf_ok : ∀ (d : Nat) (u : TypeId) (v : Value), PartOk enc P w 0 (fun _ => true) held u v → LeafOk P w d u v := by
  intro d
  induction d with
  | zero => intros; trivial
  | succ d ih =>
    intro u v h
    obtain ⟨m, y, hy⟩ := h
    unfold LeafOk
    split
    · rename_i k hk
      obtain ⟨n, hv, _, hw⟩ := DataW.trod_int hk hy
      simp at hv
      exact ⟨n, hv, hw⟩
    · rename_i hk
      obtain ⟨b, hv, _⟩ := DataW.trod_bool hk hy
      simp at hv
      exact ⟨b, hv⟩
    · rename_i e hk
      rcases DataW.trod_slice hk hy with ⟨hv, _⟩ | ⟨a, len, cap, elems, rest, n, _, hv, _, _, hl, hm, hlen, hel, _, _⟩
      · simp at hv
        exact ⟨none, 0, 0, [], hv, Nat.le_refl _, by unfold maxLen; omega, by simp, Rd.nil _ _, fun _ => ⟨rfl, rfl⟩, fun ts hts i j u' hi => by omega⟩
      · simp at hv
        have each : ∀ i, i < len → ∃ cs y, w.cells? 0 (a.add (i * P.cellsOf e)) (P.cellsOf e) = some cs ∧ DataW.trod enc P w 0 (fun _ => true) held n e cs = some y := by
          intro i hi
          have h1 := hel i hi
          have hi2 : i < elems.length := by omega
          rw [List.getElem?_eq_getElem hi2] at h1
          obtain ⟨cs, h2, h3⟩ := Option.bind_eq_some_iff.1 h1
          exact ⟨cs, _, h2, h3⟩
        have cell : ∀ k, k < len * P.cellsOf e → ∃ x, w.cell? (a.add k) = some x := by
          intro k hk'
          have hpos : 0 < P.cellsOf e := Nat.pos_of_ne_zero fun h => by rw [h] at hk'; simp at hk'
          have hi : k / P.cellsOf e < len := by rw [Nat.div_lt_iff_lt_mul hpos]; exact hk'
          obtain ⟨cs, _, h1, _⟩ := each _ hi
          obtain ⟨hl, hg⟩ := cells_get h1
          have hm := Nat.mod_lt k hpos
          have := hg _ hm
          rw [add_add, Nat.mul_comm, Nat.div_add_mod] at this
          exact ⟨cs[k % P.cellsOf e], by rw [this]; simp [hl, hm]⟩
        have hxl : ((List.range (len * P.cellsOf e)).map fun j => (w.cell? (a.add j)).getD undef).length = len * P.cellsOf e := by simp
        have hget : ∀ k, k < len * P.cellsOf e → ((List.range (len * P.cellsOf e)).map fun j => (w.cell? (a.add j)).getD undef)[k]? = w.cell? (a.add k) := by
          intro k hk'
          obtain ⟨x, hx⟩ := cell k hk'
          simp [hk', hx]
        refine ⟨some a, len, cap, _, hv, hl, hm, hxl, Rd.ofCells fun k hk' => ?_, (fun h => by cases h), fun ts hts i j u' hi hj => ?_⟩
        · rw [hxl] at hk'
          rw [← hget k hk']
          exact List.getElem?_eq_getElem _
        · obtain ⟨cs, y', h1, h2⟩ := each i hi
          obtain ⟨hl, hg⟩ := cells_get h1
          obtain ⟨hlen2, hp⟩ := flat_spec 9 e ts hts _ _ _ h2
          obtain ⟨v', hv', hk'⟩ := hp j u' hj
          have hjl : j < P.cellsOf e := by have := (List.getElem?_eq_some_iff.1 hj).1; omega
          have hb : i * P.cellsOf e + j < len * P.cellsOf e := by
            have := Nat.mul_le_mul_right (P.cellsOf e) (show i + 1 ≤ len by omega)
            rw [Nat.add_mul] at this
            omega
          refine ⟨v', ?_, ih _ _ hk'⟩
          rw [hget _ hb, ← add_add, hg j hjl]
          exact hv'
    · trivial
/-- A value of a type whose parts lie one behind the other: its cells. -/
theorem open_flat {r : Reach} {b0 : Nat} {t : TypeId} {v : Value} {d : DataW H} {p : List MemPlace} {ts : List TypeId} (hs : (∃ fs, P.underlying t = some (.struct fs)) ∨ ∃ n e, P.underlying t = some (.array n e)) (hf : flat P 9 t = some ts)
    (hv : Value.okWide P w r b0 t v) (h : DataW.Trod enc P w 0 (fun _ => true) held t v d p) : ∃ cs : Array Value, v = .agg cs ∧ cs.size = ts.length ∧ ∀ (i : Nat) (u : TypeId), ts[i]? = some u → ∃ x, cs[i]? = some x ∧ ∀ d, LeafOk P w d u x := by
  have hcs : ∃ cs, v = .agg cs ∧ cs.size = P.cellsOf t := by
    unfold Value.okWide at hv
    rcases hs with ⟨fs, hs⟩ | ⟨n, e, hs⟩ <;> rw [hs] at hv <;> obtain ⟨cs, h1, h2, _⟩ := hv <;> exact ⟨cs, h1, h2⟩
  obtain ⟨cs, rfl, _⟩ := hcs
  obtain ⟨fuel, h1⟩ := h
  obtain ⟨hl, hp⟩ := flat_spec 9 t ts hf _ _ _ h1
  simp only [Value.cells] at hl hp
  refine ⟨cs, rfl, by simpa using hl, fun i u hu => ?_⟩
  obtain ⟨x, hx, hk⟩ := hp i u hu
  exact ⟨x, by simpa using hx, fun d => leaf_ok d u x hk⟩
end
end Go.Proofs.Ytjipelhcgglhhaa

/- Arguments of whatever type, opened, with the claim's own bound on their bytes: each slice that is met is of R bytes at most. (Printed by gen/shapew.py out of XShape.) -/
namespace Go.Proofs.Ytjipelhcgglhhaa
open Go.ChangeShapes Go.WideShapes Go.ChangeAt Go.RowKit
set_option linter.unusedVariables false
set_option linter.unusedSimpArgs false
section
variable {H : Type} {enc : TypeId × Value → H} {P : Program} {w : World} {base : Nat} {spare : Nat → Bool} {held : Bool} {R : Nat}
theorem weightsAll_mem {e : TypeId} : ∀ (ds : List (DataW H)) (j : Nat) {d : DataW H}, ds[j]? = some d → ∀ b ∈ d.weights P e, b ∈ DataW.weightsAll P e ds
  | [], j, d, h, b, hb => by simp at h
  | x :: ds, 0, d, h, b, hb => by
    simp at h
    subst h
    simp only [DataW.weightsAll]
    exact List.mem_append_left _ hb
  | x :: ds, j + 1, d, h, b, hb => by
    simp only [DataW.weightsAll]
    exact List.mem_append_right _ (weightsAll_mem ds j (by simpa using h) b hb)
theorem weightsEach_mem : ∀ (ts : List TypeId) (ds : List (DataW H)) (j : Nat) {t : TypeId} {d : DataW H}, ts[j]? = some t → ds[j]? = some d → ∀ b ∈ d.weights P t, b ∈ DataW.weightsEach P ts ds
  | [], ds, j, t, d, ht, h, b, hb => by simp at ht
  | t0 :: ts, [], j, t, d, ht, h, b, hb => by simp at h
  | t0 :: ts, x :: ds, 0, t, d, ht, h, b, hb => by
    simp at h ht
    subst h ht
    simp only [DataW.weightsEach]
    exact List.mem_append_left _ hb
  | t0 :: ts, x :: ds, j + 1, t, d, ht, h, b, hb => by
    simp only [DataW.weightsEach]
    exact List.mem_append_right _ (weightsEach_mem ts ds j (by simpa using ht) (by simpa using h) b hb)
/-- What a cell of such a part holds. -/
def PartW (enc : TypeId × Value → H) (P : Program) (w : World) (base : Nat) (spare : Nat → Bool) (held : Bool) (R : Nat) (u : TypeId) (v : Value) : Prop := ∃ m y, DataW.trod enc P w base spare held m u [v] = some y ∧ ∀ b ∈ y.1.weights P u, b ≤ R
theorem flatFsW_spec {g : TypeId → Option (List TypeId)}
    (hg : ∀ (t : TypeId) (ts : List TypeId), g t = some ts → ∀ (fuel : Nat) (cs : List Value) (x : DataW H × List MemPlace), DataW.trod enc P w base spare held fuel t cs = some x → (∀ b ∈ x.1.weights P t, b ≤ R) → cs.length = ts.length ∧ ∀ (i : Nat) (u : TypeId), ts[i]? = some u → ∃ v, cs[i]? = some v ∧ PartW enc P w base spare held R u v) (cs : List Value) :
    ∀ (fs : List Field) (o : Nat) (ts : List TypeId), flatFs P g o fs = some ts → (∀ f ∈ fs, ∃ n y, DataW.trod enc P w base spare held n f.type ((cs.drop f.offset).take (P.cellsOf f.type)) = some y ∧ ∀ b ∈ y.1.weights P f.type, b ≤ R) →
      ∀ (i : Nat) (u : TypeId), ts[i]? = some u → ∃ v, cs[o + i]? = some v ∧ PartW enc P w base spare held R u v := by
  intro fs
  induction fs with
  | nil =>
    intro o ts h _ i u hu
    simp [flatFs] at h
    subst h
    simp at hu
  | cons f fs ih =>
    intro o ts h hall i u hu
    simp only [flatFs, Option.bind_eq_some_iff] at h
    obtain ⟨t1, h1, h2⟩ := h
    split at h2
    · rename_i hc
      obtain ⟨t2, h3, rfl⟩ := Option.map_eq_some_iff.1 h2
      obtain ⟨n, y, hy, hyw⟩ := hall f (List.mem_cons_self ..)
      obtain ⟨hl, hp⟩ := hg _ _ h1 _ _ _ hy hyw
      by_cases hi : i < t1.length
      · rw [List.getElem?_append_left hi] at hu
        obtain ⟨v, hv, hk⟩ := hp i u hu
        refine ⟨v, ?_, hk⟩
        rw [hc.1, List.getElem?_take] at hv
        split at hv
        · rw [List.getElem?_drop] at hv; exact hv
        · cases hv
      · rw [List.getElem?_append_right (by omega)] at hu
        obtain ⟨v, hv, hk⟩ := ih _ _ h3 (fun f hf => hall f (List.mem_cons_of_mem _ hf)) _ _ hu
        exact ⟨v, by rw [← hv]; congr 1; omega, hk⟩
    · cases h2
theorem repFlatW_spec {cs : List Value} {ts : List TypeId} {L : Nat} (hL : ts.length = L) (e : TypeId) :
    ∀ (n k : Nat), (∀ (i : Nat), i < n → ∀ (j : Nat) (u : TypeId), ts[j]? = some u → ∃ v, ((cs.drop ((k + i) * L)).take L)[j]? = some v ∧ PartW enc P w base spare held R u v) →
      ∀ (i : Nat) (u : TypeId), (repFlat ts n)[i]? = some u → ∃ v, cs[k * L + i]? = some v ∧ PartW enc P w base spare held R u v := by
  intro n
  induction n with
  | zero => intro k _ i u hu; simp [repFlat] at hu
  | succ n ih =>
    intro k hall i u hu
    simp only [repFlat] at hu
    by_cases hi : i < ts.length
    · rw [List.getElem?_append_left hi] at hu
      obtain ⟨v, hv, hk⟩ := hall 0 (by omega) i u hu
      refine ⟨v, ?_, hk⟩
      rw [List.getElem?_take] at hv
      split at hv
      · rw [List.getElem?_drop] at hv; simpa using hv
      · cases hv
    · rw [List.getElem?_append_right (by omega)] at hu
      obtain ⟨v, hv, hk⟩ := ih (k + 1) (fun i hi j u hu => by have := hall (i + 1) (by omega) j u hu; rwa [show k + (i + 1) = k + 1 + i by omega] at this) _ _ hu
      exact ⟨v, by rw [← hv]; congr 1; rw [Nat.add_mul]; omega, hk⟩
theorem flatW_spec : ∀ (d : Nat) (t : TypeId) (ts : List TypeId), flat P d t = some ts → ∀ (fuel : Nat) (cs : List Value) (x : DataW H × List MemPlace), DataW.trod enc P w base spare held fuel t cs = some x → (∀ b ∈ x.1.weights P t, b ≤ R) →
    cs.length = ts.length ∧ ∀ (i : Nat) (u : TypeId), ts[i]? = some u → ∃ v, cs[i]? = some v ∧ PartW enc P w base spare held R u v := by
  intro d
  induction d with
  | zero => intro t ts h; simp [flat] at h
  | succ d ih =>
    intro t ts h fuel cs x hx hw
    have one : ∀ v, cs = [v] → ts = [t] → cs.length = ts.length ∧ ∀ (i : Nat) (u : TypeId), ts[i]? = some u → ∃ v, cs[i]? = some v ∧ PartW enc P w base spare held R u v := by
      rintro v rfl rfl
      refine ⟨rfl, fun i u hu => ?_⟩
      rcases i with _ | i
      · simp at hu; subst hu; exact ⟨v, rfl, _, _, hx, hw⟩
      · simp at hu
    unfold flat at h
    split at h
    · rename_i k hk
      obtain ⟨n, rfl, _⟩ := DataW.trod_int hk hx
      exact one _ rfl (by simpa using h.symm)
    · rename_i hk
      obtain ⟨n, rfl, _⟩ := DataW.trod_bool hk hx
      exact one _ rfl (by simpa using h.symm)
    · rename_i e hk
      rcases DataW.trod_slice hk hx with ⟨rfl, _⟩ | ⟨a, len, cap, elems, rest, n, _, rfl, _⟩
      · exact one _ rfl (by simpa using h.symm)
      · exact one _ rfl (by simpa using h.symm)
    · rename_i fs hk
      simp only [Option.bind_eq_some_iff] at h
      obtain ⟨t1, h1, h2⟩ := h
      split at h2
      · rename_i hl
        cases h2
        obtain ⟨xs, m, _, hxe, hlen, hxs, hf⟩ := DataW.trod_struct hk hx
        refine ⟨by rw [hlen, hl], fun i u hu => ?_⟩
        have := flatFsW_spec (fun t ts h => ih t ts h) cs fs.toList 0 ts h1 (fun f hf' => by
          obtain ⟨j, hj, rfl⟩ := List.getElem_of_mem hf'
          have hj' : j < fs.size := by simpa using hj
          have h3 := hf j fs[j] (by simp [hj'])
          have hj2 : j < xs.length := by omega
          exact ⟨m, xs[j], by simpa [hj2] using h3, fun b hb => hw b (by rw [hxe]; simp only [DataW.weights, hk]; exact weightsEach_mem _ _ j (by simp [hj']) (by simp [hj2]) b hb)⟩) i u hu
        simpa using this
      · cases h2
    · rename_i n e hk
      simp only [Option.bind_eq_some_iff] at h
      obtain ⟨t1, h1, h2⟩ := h
      split at h2
      · rename_i hl
        cases h2
        obtain ⟨xs, m, _, hxe, hlen, hxs, hf⟩ := DataW.trod_array hk hx
        refine ⟨by rw [hlen, repFlat_len, hl.2], fun i u hu => ?_⟩
        have := repFlatW_spec (cs := cs) hl.1 e n 0 (fun i hi j u hu => by
          have h3 := hf i hi
          have hi2 : i < xs.length := by omega
          have h4 : DataW.trod enc P w base spare held m e ((cs.drop (i * P.cellsOf e)).take (P.cellsOf e)) = some xs[i] := by rw [h3]; simp [hi2]
          rw [Nat.zero_add]
          exact (ih e t1 h1 _ _ _ h4 (fun b hb => hw b (by rw [hxe]; simp only [DataW.weights, hk]; exact weightsAll_mem _ i (by simp [hi2]) b hb))).2 j u hu) i u hu
        simpa using this
      · cases h2
    · cases h

/-- What a one-cell part holds, d slices deep. -/
def LeafW (P : Program) (w : World) (R : Nat) : Nat → TypeId → Value → Prop
  | 0, _, _ => True
  | d + 1, u, v => match P.underlying u with
    | some (.int k) => ∃ n, v = .int k n ∧ (Lit.int k n).wf = true
    | some .bool => ∃ b, v = .bool b
    | some (.slice e) => ∃ a n c xs, v = .slice a n c ∧ n ≤ c ∧ c ≤ maxLen ∧ xs.length = n * P.cellsOf e ∧ Rd w a xs ∧ (a = none → n = 0 ∧ c = 0) ∧ n * P.bytesOf e ≤ R ∧
        ∀ ts : List TypeId, flat P 9 e = some ts → ∀ (i j : Nat) (u' : TypeId), i < n → ts[j]? = some u' → ∃ v', xs[i * P.cellsOf e + j]? = some v' ∧ LeafW P w R d u' v'
    | _ => True
theorem leafW_ok : ∀ (d : Nat) (u : TypeId) (v : Value), PartW enc P w 0 (fun _ => true) held R u v → LeafW P w R d u v := by
  intro d
  induction d with
  | zero => intros; trivial
  | succ d ih =>
    intro u v h
    obtain ⟨m, y, hy, hyw⟩ := h
    unfold LeafW
    split
    · rename_i k hk
      obtain ⟨n, hv, _, hw⟩ := DataW.trod_int hk hy
      simp at hv
      exact ⟨n, hv, hw⟩
    · rename_i hk
      obtain ⟨b, hv, _⟩ := DataW.trod_bool hk hy
      simp at hv
      exact ⟨b, hv⟩
    · rename_i e hk
      rcases DataW.trod_slice hk hy with ⟨hv, _⟩ | ⟨a, len, cap, elems, rest, n, _, hv, hxe, _, hl, hm, hlen, hel, _, _⟩
      · simp at hv
        exact ⟨none, 0, 0, [], hv, Nat.le_refl _, by unfold maxLen; omega, by simp, Rd.nil _ _, fun _ => ⟨rfl, rfl⟩, by rw [Nat.zero_mul]; exact Nat.zero_le _, fun ts hts i j u' hi => by omega⟩
      · simp at hv
        have hyw2 : ∀ b ∈ (elems.length + rest.length) * P.bytesOf e :: (DataW.weightsAll P e (elems.map (·.1)) ++ DataW.weightsAll P e (rest.map (·.1))), b ≤ R := by
          intro b hb
          refine hyw b ?_
          rw [hxe]
          simp only [DataW.weights, hk, List.length_map]
          exact hb
        have hbytes : len * P.bytesOf e ≤ R := by
          have h1 := hyw2 _ List.mem_cons_self
          have h2 : len * P.bytesOf e ≤ (elems.length + rest.length) * P.bytesOf e := Nat.mul_le_mul_right _ (by omega)
          omega
        have each : ∀ i, i < len → ∃ cs y, w.cells? 0 (a.add (i * P.cellsOf e)) (P.cellsOf e) = some cs ∧ DataW.trod enc P w 0 (fun _ => true) held n e cs = some y ∧ ∀ b ∈ y.1.weights P e, b ≤ R := by
          intro i hi
          have h1 := hel i hi
          have hi2 : i < elems.length := by omega
          rw [List.getElem?_eq_getElem hi2] at h1
          obtain ⟨cs, h2, h3⟩ := Option.bind_eq_some_iff.1 h1
          exact ⟨cs, _, h2, h3, fun b hb => hyw2 b (List.mem_cons_of_mem _ (List.mem_append_left _ (weightsAll_mem _ i (by simp [hi2]) b hb)))⟩
        have cell : ∀ k, k < len * P.cellsOf e → ∃ x, w.cell? (a.add k) = some x := by
          intro k hk'
          have hpos : 0 < P.cellsOf e := Nat.pos_of_ne_zero fun h => by rw [h] at hk'; simp at hk'
          have hi : k / P.cellsOf e < len := by rw [Nat.div_lt_iff_lt_mul hpos]; exact hk'
          obtain ⟨cs, _, h1, _, _⟩ := each _ hi
          obtain ⟨hl, hg⟩ := cells_get h1
          have hm := Nat.mod_lt k hpos
          have := hg _ hm
          rw [add_add, Nat.mul_comm, Nat.div_add_mod] at this
          exact ⟨cs[k % P.cellsOf e], by rw [this]; simp [hl, hm]⟩
        have hxl : ((List.range (len * P.cellsOf e)).map fun j => (w.cell? (a.add j)).getD undef).length = len * P.cellsOf e := by simp
        have hget : ∀ k, k < len * P.cellsOf e → ((List.range (len * P.cellsOf e)).map fun j => (w.cell? (a.add j)).getD undef)[k]? = w.cell? (a.add k) := by
          intro k hk'
          obtain ⟨x, hx⟩ := cell k hk'
          simp [hk', hx]
        refine ⟨some a, len, cap, _, hv, hl, hm, hxl, Rd.ofCells fun k hk' => ?_, (fun h => by cases h), hbytes, fun ts hts i j u' hi hj => ?_⟩
        · rw [hxl] at hk'
          rw [← hget k hk']
          exact List.getElem?_eq_getElem _
        · obtain ⟨cs, y', h1, h2, hyw'⟩ := each i hi
          obtain ⟨hl, hg⟩ := cells_get h1
          obtain ⟨hlen2, hp⟩ := flatW_spec 9 e ts hts _ _ _ h2 hyw'
          obtain ⟨v', hv', hk'⟩ := hp j u' hj
          have hjl : j < P.cellsOf e := by have := (List.getElem?_eq_some_iff.1 hj).1; omega
          have hb : i * P.cellsOf e + j < len * P.cellsOf e := by
            have := Nat.mul_le_mul_right (P.cellsOf e) (show i + 1 ≤ len by omega)
            rw [Nat.add_mul] at this
            omega
          refine ⟨v', ?_, ih _ _ hk'⟩
          rw [hget _ hb, ← add_add, hg j hjl]
          exact hv'
    · trivial
/-- A slice's value, d slices deep. -/
theorem open_slW {r : Reach} {b0 : Nat} {t e : TypeId} {v : Value} {dd : DataW H} {p : List MemPlace} (hs : P.underlying t = some (.slice e)) (hv : Value.okWide P w r b0 t v) (h : DataW.Trod enc P w 0 (fun _ => true) held t v dd p) (hw : ∀ b ∈ dd.weights P t, b ≤ R) (d : Nat) : LeafW P w R d t v := by
  obtain ⟨a, n, c, rfl⟩ := okWide_slice hs hv
  obtain ⟨fuel, h1⟩ := h
  exact leafW_ok d t _ ⟨fuel, _, h1, hw⟩
theorem leaf_intW {u : TypeId} {k : IntKind} {v : Value} (hu : P.underlying u = some (.int k)) (h : ∀ d, LeafW P w R d u v) : ∃ n, v = .int k n ∧ (Lit.int k n).wf = true := by
  have h := h 1
  unfold LeafW at h
  rw [hu] at h
  exact h
theorem leaf_boolW {u : TypeId} {v : Value} (hu : P.underlying u = some .bool) (h : ∀ d, LeafW P w R d u v) : ∃ b, v = .bool b := by
  have h := h 1
  unfold LeafW at h
  rw [hu] at h
  exact h
theorem leaf_sliceW {u e : TypeId} {v : Value} (hu : P.underlying u = some (.slice e)) {ts : List TypeId} (hf : flat P 9 e = some ts) (h : ∀ d, LeafW P w R d u v) :
    ∃ a n c xs, v = .slice a n c ∧ n ≤ c ∧ c ≤ maxLen ∧ xs.length = n * P.cellsOf e ∧ Rd w a xs ∧ (a = none → n = 0 ∧ c = 0) ∧ n * P.bytesOf e ≤ R ∧ ∀ (i j : Nat) (u' : TypeId), i < n → ts[j]? = some u' → ∃ v', xs[i * P.cellsOf e + j]? = some v' ∧ ∀ d, LeafW P w R d u' v' := by
  have h1 := h 1
  unfold LeafW at h1
  rw [hu] at h1
  obtain ⟨a, n, c, xs, rfl, hn, hc, hl, hr, h0, hb, hp⟩ := h1
  refine ⟨a, n, c, xs, rfl, hn, hc, hl, hr, h0, hb, fun i j u' hi hj => ?_⟩
  obtain ⟨v', hv', _⟩ := hp ts hf i j u' hi hj
  refine ⟨v', hv', fun d => ?_⟩
  have h2 := h (d + 1)
  unfold LeafW at h2
  rw [hu] at h2
  obtain ⟨a2, n2, c2, xs2, he, _, _, hl2, hr2, _, _, hp2⟩ := h2
  simp only [Value.slice.injEq] at he
  obtain ⟨rfl, rfl, rfl⟩ := he
  obtain ⟨v2, hv2, hk⟩ := hp2 ts hf i j u' hi hj
  have e1 : xs2 = xs := by
    apply List.ext_getElem (by rw [hl2, hl])
    intro m h3 h4
    obtain ⟨b, o, e5, h5⟩ := hr m h4
    obtain ⟨b', o', e6, h6⟩ := hr2 m h3
    rw [e5] at e6
    simp only [Option.some.injEq, Addr.mk.injEq] at e6
    obtain ⟨rfl, rfl, _⟩ := e6
    rw [h5] at h6
    exact (Option.some.inj h6).symm
  subst e1
  rw [hv'] at hv2
  cases hv2
  exact hk
end
end Go.Proofs.Ytjipelhcgglhhaa

/- The arguments of the clients' laws. -/
namespace Go.Proofs.Ytjipelhcgglhhaa
open Go.ChangeShapes Go.WideShapes Go.ChangeAt Go.RowKit
theorem arr_two {cs : Array Value} (h : cs.size = 2) {x y : Value} (hx : cs[0]? = some x) (hy : cs[1]? = some y) : cs = #[x, y] := by
  obtain ⟨l⟩ := cs
  match l, h with
  | [c0, c1], _ => simp at hx hy; rw [hx, hy]
end Go.Proofs.Ytjipelhcgglhhaa

/- Worlds that grow: 'w.ext d' is a world behind w in which nothing of w has changed; calls and regions that only make memory leave such a world, and cells are read through it. -/
namespace Go.Proofs.Ytjipelhcgglhhaa
open Go.RowKit

open Classical in
/-- w, grown to d where d is w grown; else w itself. -/
noncomputable def World.ext (w d : World) : World := if Below w.heap.size w d then d else w
theorem ext_below (w d : World) : Below w.heap.size w (World.ext w d) := by
  unfold World.ext
  split
  · assumption
  · exact Below.refl _ _
theorem ext_of {w w' : World} (h : Below w.heap.size w w') : ∃ d, w' = World.ext w d := ⟨w', by unfold World.ext; rw [if_pos h]⟩
theorem ext_size (w d : World) : w.heap.size ≤ (World.ext w d).heap.size := (ext_below w d).size
theorem ext_block (w d : World) {k : Nat} (h : k < w.heap.size) : (World.ext w d).heap[k]? = w.heap[k]? := (ext_below w d).block k h
/-- How many blocks were made on the way from w. -/
noncomputable def World.extN (w d : World) : Nat := (World.ext w d).heap.size - w.heap.size
@[go_sem high] theorem size_ext (w d : World) : (World.ext w d).heap.size = w.heap.size + World.extN w d := by
  have := ext_size w d; unfold World.extN; omega
noncomputable def World.extCell (w d : World) (a : Addr) : Option Value := (World.ext w d).cell? a
noncomputable def World.extFrozen (w d : World) (a : Addr) : Bool := (World.ext w d).frozen? a
@[go_sem high] theorem ext_cell (w d : World) (n i : Nat) (s : Option Nat) : (World.ext w d).cell? ⟨n, i, s⟩ = if n < w.heap.size then w.cell? ⟨n, i, s⟩ else World.extCell w d ⟨n, i, s⟩ := by
  split
  · rename_i h; exact (ext_below w d).cell (p := ⟨n, i, s⟩) h
  · rfl
@[go_sem high] theorem ext_frozen (w d : World) (n i : Nat) (s : Option Nat) : (World.ext w d).frozen? ⟨n, i, s⟩ = if n < w.heap.size then w.frozen? ⟨n, i, s⟩ else World.extFrozen w d ⟨n, i, s⟩ := by
  split
  · rename_i h; exact (ext_below w d).frozen (p := ⟨n, i, s⟩) h
  · rfl
@[go_sem high] theorem alloc_cell (w : World) (c : Array Value) (t : TypeId) (f : Nat × Nat) (n i : Nat) : (w.alloc (.cells c t f)).cell? ⟨n, i, none⟩ = if n = w.heap.size then c[i]? else w.cell? ⟨n, i, none⟩ := by
  split
  · rename_i h
    subst h
    simp only [World.cell?, heap_alloc_new]
    simp
  · rename_i h; exact World.cell?_alloc_old _ _ _ h
@[go_sem high] theorem alloc_frozen (w : World) (c : Array Value) (t : TypeId) (n i : Nat) : (w.alloc (.cells c t)).frozen? ⟨n, i, none⟩ = if n = w.heap.size then false else w.frozen? ⟨n, i, none⟩ := by
  split
  · rename_i h
    subst h
    exact frozen_of_row _ _ _ _ _ (heap_alloc_new w _)
  · rename_i h; exact World.frozen?_alloc_old _ _ _ h

/-- Nothing of w has changed in w'. -/
def Ext (w w' : World) : Prop := Below w.heap.size w w'
theorem Ext.refl (w : World) : Ext w w := Below.refl _ _
theorem Ext.alloc {w w' : World} (h : Ext w w') (o : Obj) : Ext w (w'.alloc o) := Below.alloc h (Below.size h) o
theorem Ext.drew {w w' : World} (h : Ext w w') : Ext w w'.drew := Below.drew h
theorem Ext.trans {a b c : World} (h : Ext a b) (k : Ext b c) : Ext a c := Below.trans h (Below.mono k (Below.size h))
theorem Ext.ext {w w' : World} (h : Ext w w') (d : World) : Ext w (World.ext w' d) := h.trans (ext_below w' d)
theorem Ext.setCell {w w' : World} (h : Ext w w') {p : Addr} (hp : w.heap.size ≤ p.block) (u : Value) : Ext w (w'.setCell p u) := Below.setCell h hp u
theorem Ext.out {w w' : World} (h : Ext w w') : ∃ d, w' = World.ext w d := ext_of h
theorem Ext.rd {w w' : World} {a : Option Addr} {xs : List Value} (h : Ext w w') (k : Rd w a xs) : Rd w' a xs := k.below h

/-- A callee that only makes memory, met in the midst of a region. -/
theorem Calls.ext_of {P : Program} {f : FuncId} {args : Array Value} {W d : World} {v : Value}
    (h : Calls P f args (World.ext W d) fun e w' => e = .returned v ∧ Below (World.ext W d).heap.size (World.ext W d) w') : Calls P f args (World.ext W d) fun e w'' => e = .returned v ∧ ∃ m, w'' = World.ext W m :=
  h.mono fun _ _ ⟨he, hb⟩ => ⟨he, _root_.Go.Proofs.Ytjipelhcgglhhaa.ext_of (((Ext.refl W).ext d).trans hb)⟩
/-- Called with these arguments, in whatever world, it answers v and only makes memory. -/
def Ans (f : FuncId) (args : Array Value) (v : Value) : Prop := ∀ w, Calls Try.prog f args w fun e w' => e = .returned v ∧ Below w.heap.size w w'
theorem Ans.same {f : FuncId} {args : Array Value} {v : Value} (h : ∀ w, Calls Try.prog f args w fun e w' => e = .returned v ∧ w' = w) : Ans f args v := fun w => (h w).mono fun _ _ ⟨he, hw⟩ => ⟨he, hw ▸ Below.refl _ _⟩
theorem Ans.to {f : FuncId} {args : Array Value} {v v' : Value} (h : Ans f args v) (e : v = v') : Ans f args v' := e ▸ h
theorem Ans.call {f : FuncId} {args : Array Value} {v : Value} {w : World} {R : Ending → World → Prop} (h : Ans f args v) (k : ∀ d, R (.returned v) (World.ext w d)) : Calls Try.prog f args w R :=
  (h w).mono fun e w' ⟨he, hb⟩ => by obtain ⟨d, rfl⟩ := ext_of hb; rw [he]; exact k d
theorem Ans.quiet {f : FuncId} {args : Array Value} {v : Value} {W d : World} (h : Ans f args v) : Calls Try.prog f args (World.ext W d) fun e w'' => e = .returned v ∧ ∃ m, w'' = World.ext W m := Calls.ext_of (h _)
end Go.Proofs.Ytjipelhcgglhhaa

/- A region that draws its order, whose first n operations only read or call what only makes memory, and whose last ones come in one order, behind all others: one walk in the order of the text. -/
namespace Go.Proofs.Ytjipelhcgglhhaa
open Go.RowKit

section
variable {P : Program} {ops : Array Oper} {md : Region.Mode} {C : World → Prop}
/-- The first n operations in whatever order, then L. -/
def HeadAny (P : Program) (md : Region.Mode) (ops : Array Oper) (C : World → Prop) (n : Nat) (L : Array Bool → Act → Prop) : Nat → Array Bool → Act → Prop
  | 0, listed, a => L listed a
  | f + 1, listed, a => Region.ready md ops listed ≠ [] ∧ ∀ i ∈ Region.ready md ops listed, i < n ∧ qOp P ops C i (HeadAny P md ops C n L f (listed.setIfInBounds i true)) a
theorem HeadAny.any {n g : Nat} {L : Array Bool → Act → Prop} {Q : Exit → Act → World → Prop} (hL : ∀ listed a w, C w → L listed a → wpAny P md ops Q g listed a w) :
    ∀ (f : Nat) (listed : Array Bool) (a : Act) (w : World), C w → HeadAny P md ops C n L f listed a → wpAny P md ops Q (f + g) listed a w := by
  intro f
  induction f with
  | zero => intro listed a w hw h; rw [Nat.zero_add]; exact hL _ _ _ hw h
  | succ f ih =>
    intro listed a w hw h
    rw [show f + 1 + g = (f + g) + 1 by omega]
    exact ⟨fun h0 => absurd h0 h.1, fun i hi => wpOp_of_qOp hw (fun a' w' hw' h' => ih _ a' w' hw' h') (h.2 i hi).2⟩
theorem HeadAny.first {n i : Nat} {oi : Oper} {v : Value} {L : Array Bool → Act → Prop} (hi : ops[i]? = some oi) (hsel : ∀ (j : Nat) (o : Oper) cs b, ops[j]? = some o → o.op ≠ .select cs b)
    (hs : Region.sinkB md ops n = true) (hc : Region.chainB md ops n = true) (hn : n < ops.size) (hin : i < n) (hdone : ∀ listed a, L listed a → ∀ j ∈ Region.ready md ops listed, n ≤ j) :
    ∀ (f : Nat) (listed : Array Bool) (a : Act), HeadInv md ops n listed →
      (∀ j oj, ops[j]? = some oj → j ≠ i → listed.getD j true = false → (∀ e ∈ oj.after, Region.binds md e = true → e.on ≠ i) → oi.apart ops oj = true) →
      i ∈ Region.ready md ops listed → YieldsIn P ops C oi v a → HeadAny P md ops C n L f (listed.setIfInBounds i true) (a.put oi.dst v) → HeadAny P md ops C n L (f + 1) listed a := by
  intro f
  induction f with
  | zero =>
    intro listed a inv _ hr hy H
    refine ⟨fun h => by rw [h] at hr; simp at hr, fun j hj => ?_⟩
    have hjn : j < n := Nat.lt_of_not_le fun h => tail_waits hs hc hn inv _ i rfl hin (mem_ready.1 hr).1 j h hj
    refine ⟨hjn, ?_⟩
    by_cases e : j = i
    · subst e; exact hy.qOp hi H
    · have := hdone _ _ H j (ready_mono hj e)
      omega
  | succ f ih =>
    intro listed a inv hfree hr hy H
    have hun := (mem_ready.1 hr).1
    refine ⟨fun h => by rw [h] at hr; simp at hr, fun j hj => ?_⟩
    have hjn : j < n := Nat.lt_of_not_le fun h => tail_waits hs hc hn inv _ i rfl hin hun j h hj
    refine ⟨hjn, ?_⟩
    by_cases e : j = i
    · subst e; exact hy.qOp hi H
    · obtain ⟨hjun, oj, hoj, hall⟩ := mem_ready.1 hj
      have hnot : ∀ e ∈ oj.after, Region.binds md e = true → e.on ≠ i := fun e he hb heq => by
        have := hall e he hb
        rw [heq, getD_both hun] at this
        cases this
      refine qOp_mono (fun a' h3 => ih (listed.setIfInBounds j true) a' (inv.set hj hjn) (fun k ok hk hki hun' hno => ?_) (ready_mono hr (Ne.symm e)) h3.1 ?_)
        (qOp_put hoj (hfree j oj hoj e hjun hnot) (fun cs b => hsel i oi cs b hi) (fun cs b => hsel j oj cs b hoj) hy (H.2 j (ready_mono hj e)).2)
      · refine hfree k ok hk hki ?_ hno
        by_cases hjk : j = k
        · subst hjk; exact hjun
        · rwa [getD_set_ne true hjk] at hun'
      · rw [Array.setIfInBounds_comm _ _ e]; exact h3.2
theorem HeadAny.lex {n g : Nat} {K : Act → Prop} (hsel : Region.noSelect ops = true) (hs : Region.sinkB md ops n = true) (hc : Region.chainB md ops n = true) (hn : n < ops.size) :
    ∀ (l : List Oper) (k : Nat) (listed : Array Bool) (a : Act), (∀ j, j < l.length → l[j]? = ops[k + j]?) → k + l.length = n → HeadInv md ops n listed →
    Region.lexHead md ops g l.length k listed = true → wpQuiet P ops C K l a → HeadAny P md ops C n (fun listed' a' => Region.seqB md ops g n listed' = true ∧ K a') l.length listed a := by
  intro l
  induction l with
  | nil =>
    intro k listed a _ hk _ hB h
    obtain rfl : k = n := by simpa using hk
    exact ⟨by simpa [Region.lexHead] using hB, h⟩
  | cons o l ih =>
    intro k listed a hl hk inv hB h
    have h0 : ops[k]? = some o := by simpa using (hl 0 (by simp)).symm
    simp only [List.length_cons, Region.lexHead, Bool.and_eq_true] at hB
    have hkn : k < n := by simp only [List.length_cons] at hk; omega
    have hr : k ∈ Region.ready md ops listed := by simpa using hB.1.1
    obtain ⟨v, hy, hK⟩ := yieldsIn_of_qOp h0 (show qOp P ops C k (wpQuiet P ops C K l) a by unfold qOp; simp only [h0]; exact h)
    exact HeadAny.first h0 (Region.noSelect_spec hsel) hs hc hn hkn (fun _ _ hL => seqB_ready hL.1) l.length listed a inv (Region.free_spec h0 hB.1.2) hr hy
      (ih (k + 1) _ _ (fun j hj => by have := hl (j + 1) (by simp; omega); simpa [Nat.add_assoc, Nat.add_comm 1 j] using this) (by simp only [List.length_cons] at hk; omega) (inv.set hr hkn) hB.2 hK)
/-- The walk: the first n operations quiet in C, the others one behind the other in whatever world of C. -/
theorem wp_region_tail {id : Nat} {Q : Exit → Act → World → Prop} {a : Act} {w : World} {l : List Oper} (n : Nat) (hm : P.follows .mixedOrders = true) (hB : Region.lexTailB .any l.toArray n = true) (hC : C { w with drawn := w.drawn + 1 })
    (h : wpQuiet P l.toArray C (fun a' => ∀ w', C w' → wpList P l.toArray Q (l.drop n) a' w') (l.take n) a) : (Code.region id l.toArray true).wp P Q a w := by
  simp only [Region.lexTailB, Bool.and_eq_true, decide_eq_true_eq] at hB
  obtain ⟨⟨⟨⟨hsel, hn⟩, hs⟩, hc⟩, hlex⟩ := hB
  have hn' : n < l.length := by simpa using hn
  have htl : (l.take n).length = n := by simp; omega
  have hdl : (l.drop n).length = l.toArray.size - n := by simp
  have H := HeadAny.lex (C := C) (md := .any) (g := l.toArray.size - n) hsel hs hc hn (l.take n) 0 (Array.replicate l.toArray.size false) a (fun j hj => by
    have hj' : j < n := by rw [htl] at hj; exact hj
    simp [hj']) (by simpa using htl) ⟨by simp, fun j oj _ hl => (by rw [getD_replicate_false] at hl; cases hl), fun t _ ht => getD_in (by simpa using ht) (getD_replicate_false _ _)⟩ (by rw [htl]; exact hlex) h
  refine wp_region_any hm ?_
  have := HeadAny.any (Q := Q) (g := l.toArray.size - n) (fun listed a' w' hw' hL => by
    have := wpAny_of_seq (md := .any) (Q' := Q) (l.drop n) n listed a' w' (fun j => by simp [List.getElem?_drop]) (by rw [hdl]; exact hL.1) (hL.2 w' hw')
    rwa [hdl] at this) _ _ _ _ hC H
  rwa [htl, show n + (l.toArray.size - n) = l.toArray.size by omega] at this
end
end Go.Proofs.Ytjipelhcgglhhaa

/- Blocks known whole, and arrays by value: they are loaded, stored and made as one thing, with no look at their cells. -/
namespace Go.Proofs.Ytjipelhcgglhhaa
open Go.RowKit

theorem heapAlloc (w : World) (o : Obj) : (w.alloc o).heap = w.heap.push o := rfl
def blk (w : World) (n : Nat) : Option Obj := w.heap[n]?
noncomputable def extBlk (w d : World) (n : Nat) : Option Obj := blk (World.ext w d) n
@[go_sem high] theorem blk_alloc (w : World) (o : Obj) (n : Nat) : blk (w.alloc o) n = if n = w.heap.size then some o else blk w n := by
  unfold blk
  split
  · rename_i h; subst h; exact heap_alloc_new w o
  · rename_i h
    show (w.heap.push o)[n]? = _
    rw [Array.getElem?_push, if_neg h]
@[go_sem high] theorem blk_ext (w d : World) (n : Nat) : blk (World.ext w d) n = if n < w.heap.size then blk w n else extBlk w d n := by
  split
  · rename_i h; exact ext_block w d h
  · rfl
@[go_sem high] theorem blk_drew (w : World) (n : Nat) : blk w.drew n = blk w n := rfl

/-- The block's contents are c now. -/
def setBlk (w : World) (n : Nat) (c : Array Value) : World := { w with heap := w.heap.modify n fun | .cells _ t f => .cells c t f | o => o }
noncomputable def extSetBlk (w d : World) (n : Nat) (c : Array Value) : World := setBlk (World.ext w d) n c
noncomputable def extSet (w d : World) (p : Addr) (v : Value) : World := (World.ext w d).setCell p v
@[go_sem high] theorem size_setBlk (w : World) (n : Nat) (c : Array Value) : (setBlk w n c).heap.size = w.heap.size := by simp [setBlk]
theorem setBlk_block (w : World) (n : Nat) (c : Array Value) (k : Nat) (h : k ≠ n) : (setBlk w n c).heap[k]? = w.heap[k]? := by
  simp only [setBlk, Array.getElem?_modify]; rw [if_neg (by omega)]
theorem setBlk_same (w : World) (n : Nat) (c c0 : Array Value) (t : TypeId) (f : Nat × Nat) (h : w.heap[n]? = some (.cells c0 t f)) : (setBlk w n c).heap[n]? = some (.cells c t f) := by
  simp only [setBlk, Array.getElem?_modify, h]; rfl
theorem World.eq_of {w w' : World} (h1 : w.heap = w'.heap) (h2 : w.tape = w'.tape) (h3 : w.drawn = w'.drawn) (h4 : w.os = w'.os) (h5 : w.output = w'.output) : w = w' := by
  cases w; cases w'; simp_all
@[go_sem high] theorem alloc_setBlk (w : World) (c0 : Array Value) (t : TypeId) (f : Nat × Nat) (n : Nat) (c : Array Value) :
    setBlk (w.alloc (.cells c0 t f)) n c = if n = w.heap.size then w.alloc (.cells c t f) else (setBlk w n c).alloc (.cells c0 t f) := by
  split
  · rename_i h
    subst h
    refine World.eq_of ?_ rfl rfl rfl rfl
    simp only [setBlk, heapAlloc]
    apply Array.ext_getElem?
    intro i
    rw [Array.getElem?_modify, Array.getElem?_push, Array.getElem?_push]
    by_cases e : i = w.heap.size
    · subst e; simp
    · rw [if_neg (by omega), if_neg e, if_neg e]
  · rename_i h
    refine World.eq_of ?_ rfl rfl rfl rfl
    simp only [setBlk, heapAlloc]
    apply Array.ext_getElem?
    intro i
    rw [Array.getElem?_modify, Array.getElem?_push, Array.getElem?_push, Array.getElem?_modify, Array.size_modify]
    by_cases e : i = w.heap.size
    · rw [if_pos e, if_pos e, if_neg (by omega)]
    · rw [if_neg e, if_neg e]
theorem ext_self {w d : World} (h : Below w.heap.size w d) : World.ext w d = d := by unfold World.ext; rw [if_pos h]
theorem below_setBlk {w d : World} {n : Nat} (c : Array Value) : Below (setBlk w n c).heap.size (setBlk w n c) (setBlk (World.ext w d) n c) := by
  have hb := ext_below w d
  refine ⟨hb.os, hb.tape, hb.output, by rw [size_setBlk, size_setBlk]; exact hb.size, fun k hk => ?_⟩
  rw [size_setBlk] at hk
  have hk' := hb.block k hk
  simp only [setBlk, Array.getElem?_modify, hk']
@[go_sem high] theorem ext_setBlk (w d : World) (n : Nat) (c : Array Value) : setBlk (World.ext w d) n c = if n < w.heap.size then World.ext (setBlk w n c) (extSetBlk w d n c) else extSetBlk w d n c := by
  split
  · exact (ext_self (below_setBlk c)).symm
  · rfl
theorem below_setCell {w d : World} {p : Addr} (v : Value) : Below (w.setCell p v).heap.size (w.setCell p v) ((World.ext w d).setCell p v) := by
  have hb := ext_below w d
  refine ⟨hb.os, hb.tape, hb.output, by simpa using hb.size, fun k hk => ?_⟩
  have hk' := hb.block k (by simpa using hk)
  simp only [World.setCell, Array.getElem?_modify, hk']
@[go_sem high] theorem ext_setCell (w d : World) (n i : Nat) (s : Option Nat) (v : Value) : (World.ext w d).setCell ⟨n, i, s⟩ v = if n < w.heap.size then World.ext (w.setCell ⟨n, i, s⟩ v) (extSet w d ⟨n, i, s⟩ v) else extSet w d ⟨n, i, s⟩ v := by
  split
  · exact (ext_self (below_setCell (p := ⟨n, i, s⟩) v)).symm
  · rfl
@[go_sem high] theorem alloc_setCell (w : World) (c : Array Value) (t : TypeId) (f : Nat × Nat) (n i : Nat) (v : Value) :
    (w.alloc (.cells c t f)).setCell ⟨n, i, none⟩ v = if n = w.heap.size then w.alloc (.cells (c.setIfInBounds i v) t f) else (w.setCell ⟨n, i, none⟩ v).alloc (.cells c t f) := by
  split
  · rename_i h
    subst h
    refine World.eq_of ?_ rfl rfl rfl rfl
    simp only [World.setCell, heapAlloc]
    apply Array.ext_getElem?
    intro j
    rw [Array.getElem?_modify, Array.getElem?_push, Array.getElem?_push]
    by_cases e : j = w.heap.size
    · subst e; simp
    · rw [if_neg (fun h => e h.symm), if_neg e, if_neg e]
  · rename_i h
    refine World.eq_of ?_ rfl rfl rfl rfl
    simp only [World.setCell, heapAlloc]
    apply Array.ext_getElem?
    intro j
    rw [Array.getElem?_modify, Array.getElem?_push, Array.getElem?_push, Array.getElem?_modify, Array.size_modify]
    by_cases e : j = w.heap.size
    · rw [if_pos e, if_pos e, if_neg (by omega)]
    · rw [if_neg e, if_neg e]

theorem blk_here {w : World} {o : Obj} {n : Nat} (h : n = w.heap.size) : blk (w.alloc o) n = some o := by rw [blk_alloc, if_pos h]
theorem blk_lt {w : World} {n : Nat} {o : Obj} (h : blk w n = some o) : n < w.heap.size := (Array.getElem?_eq_some_iff.1 h).1
theorem blk_extS {w d : World} {n : Nat} {o : Obj} (h : blk w n = some o) : blk (World.ext w d) n = some o := by
  rw [blk_ext, if_pos (blk_lt h), h]
/-- Block n is there, and with c in it w is w'. -/
def SetTo (w : World) (n : Nat) (c : Array Value) (w' : World) : Prop := (∃ o, blk w n = some o) ∧ setBlk w n c = w'
theorem SetTo.here {w : World} {c0 : Array Value} {t : TypeId} {f : Nat × Nat} {n : Nat} {c : Array Value} (h : n = w.heap.size) : SetTo (w.alloc (.cells c0 t f)) n c (w.alloc (.cells c t f)) :=
  ⟨⟨_, blk_here h⟩, by rw [alloc_setBlk, if_pos h]⟩
theorem SetTo.ext {w w' d : World} {n : Nat} {c : Array Value} (h : SetTo w n c w') : SetTo (World.ext w d) n c (World.ext w' (extSetBlk w d n c)) := by
  obtain ⟨⟨o, ho⟩, h2⟩ := h
  exact ⟨⟨o, blk_extS ho⟩, by rw [ext_setBlk, if_pos (blk_lt ho), h2]⟩
theorem SetTo.drew {w w' : World} {n : Nat} {c : Array Value} (h : SetTo w n c w') : SetTo w.drew n c w'.drew := ⟨h.1, by rw [← h.2]; rfl⟩

/-- A type whose values are rows of n cells; z: its zero. -/
structure RowTy (T n : Nat) (z : Array Value) : Prop where
  und : ∃ d, Try.prog.underlying T = some d ∧ d.isRow = true
  size : (Try.prog.info? T).map (·.size) = some n
  zero : (Try.prog.info? T).bind (·.zero) = some (.agg z)
/-- n cells of one place each. -/
def Cells (n : Nat) (c : Array Value) : Prop := c.size = n ∧ c.all (·.oneCell') = true

section
variable {ops : Array Oper} {rest : List Oper} {o : Oper} {a : Act} {w : World} {Q : Exit → Act → World → Prop} {T n : Nat} {z : Array Value}
theorem wpl_loadR {dst : Option Tmp} {ty : TypeId} {pos : String} {after : Array Edge} {guard : Option (Nat × Bool)} {x : Operand} {b off : Nat} (RT : RowTy T n z) (hw : Region.wanted ⟨dst, .load T x, ty, pos, after, guard⟩ (yielded ops a.tmps) = true) (hx : a.eval x = .pointer (some ⟨b, off, none⟩))
    {c c1 : Array Value} {t : TypeId} {f : Nat × Nat} (hb : blk w b = some (.cells c t f)) (hn : off + n ≤ c.size) (he : c.extract off (off + n) = c1)
    (h : wpList Try.prog ops Q rest (a.put dst (.agg c1)) w) : wpList Try.prog ops Q (⟨dst, .load T x, ty, pos, after, guard⟩ :: rest) a w := by
  obtain ⟨d, hu, hd⟩ := RT.und
  subst he
  exact BigFrame.wpList_want hw fun K hK => wp_load_mid T x rfl b off hx (c.extract off (off + n)).toList d (World.rangeAt_of_block hb off n) hu hd (by rw [RT.size]; simp; omega) (hK _ _ (by rw [Array.toArray_toList]; exact h))
theorem run_loadR (RT : RowTy T n z) {w : World} {b off : Nat} {c : Array Value} {t : TypeId} {f : Nat × Nat} (hb : w.heap[b]? = some (.cells c t f)) (hn : off + n ≤ c.size) :
    (Instr.loadAt T (.pointer (some ⟨b, off, none⟩))).run Try.prog w = .ok (.agg (c.extract off (off + n))) w := by
  obtain ⟨d, hu, hd⟩ := RT.und
  have := run_loadAt_mid (P := Try.prog) w b off T (c.extract off (off + n)).toList d (World.rangeAt_of_block hb off n) hu hd (by rw [RT.size]; simp; omega)
  rw [Array.toArray_toList] at this
  exact this
/-- An operation that yields one value, in whatever world. -/
theorem wpl_pure (hw : Region.wanted o (yielded ops a.tmps) = true) (v : Value) (hv : ∀ w, (execOp a.eval o).run Try.prog w = .ok (.value v) w) (h : wpList Try.prog ops Q rest (a.put o.dst v) w) : wpList Try.prog ops Q (o :: rest) a w :=
  BigFrame.wpList_want hw fun K hK => by unfold Oper.wp; rw [hv]; exact hK _ _ h
/-- A type whose values lie in one cell. -/
structure CellTy (T : Nat) : Prop where
  und : ∃ d, Try.prog.underlying T = some d ∧ d.isRow = false
  size : (Try.prog.info? T).map (·.size) = some 1
theorem run_loadC (CT : CellTy T) {w : World} {b off : Nat} {c : Array Value} {t : TypeId} {f : Nat × Nat} {v : Value} (hb : w.heap[b]? = some (.cells c t f)) (hv : c[off]? = some v) :
    (Instr.loadAt T (.pointer (some ⟨b, off, none⟩))).run Try.prog w = .ok v w := by
  obtain ⟨d, hu, hd⟩ := CT.und
  have hagg : (isAgg T).run Try.prog w = .ok false w := by
    unfold isAgg
    rw [Sem.run_bind, run_underlying hu w]
    cases d <;> simp_all [TypeDesc.isRow]
  have hc : w.cell? ⟨b, off, none⟩ = some v := by rw [cell_of_row w b off c t f hb]; exact hv
  simp [Instr.loadAt, Instr.sureAddr, loadVar, Sem.run_bind, hagg, go_sem, hc]
theorem wpl_loadC {dst : Option Tmp} {ty : TypeId} {pos : String} {after : Array Edge} {guard : Option (Nat × Bool)} {x : Operand} {b off : Nat} (CT : CellTy T) (hw : Region.wanted ⟨dst, .load T x, ty, pos, after, guard⟩ (yielded ops a.tmps) = true) (hx : a.eval x = .pointer (some ⟨b, off, none⟩))
    {c : Array Value} {v : Value} {t : TypeId} {f : Nat × Nat} (hb : blk w b = some (.cells c t f)) (hv : c[off]? = some v) (h : wpList Try.prog ops Q rest (a.put dst v) w) : wpList Try.prog ops Q (⟨dst, .load T x, ty, pos, after, guard⟩ :: rest) a w :=
  BigFrame.wpList_want hw fun K hK => by
    unfold Oper.wp execOp
    simp only [hx, Sem.run_bind, run_loadC CT hb hv]
    exact hK _ _ h
/-- c0 with v written over its cells from off on. -/
def splice (c0 : Array Value) (off : Nat) (v : Array Value) : Array Value := (c0.toList.take off ++ v.toList ++ c0.toList.drop (off + v.size)).toArray
theorem splice_all {c0 v : Array Value} (h : v.size = c0.size) : splice c0 0 v = v := by
  unfold splice
  rw [List.take_zero, List.nil_append, List.drop_eq_nil_of_le (by simp; omega), List.append_nil]
theorem setCells_blk (b : Nat) : ∀ (vs : List Value) (k : Nat) (w : World) (c : Array Value) (t : TypeId) (f : Nat × Nat), w.heap[b]? = some (.cells c t f) → k + vs.length ≤ c.size →
    w.setCells b k vs = setBlk w b ((c.toList.take k ++ vs ++ c.toList.drop (k + vs.length)).toArray)
  | [], k, w, c, t, f, hb, hk => by
    simp only [World.setCells, List.append_nil, List.length_nil, Nat.add_zero, List.take_append_drop, Array.toArray_toList]
    refine World.eq_of ?_ rfl rfl rfl rfl
    apply Array.ext_getElem?
    intro j
    by_cases e : j = b
    · subst e; rw [hb, setBlk_same w j c c t f hb]
    · rw [setBlk_block _ _ _ _ e]
  | v :: vs, k, w, c, t, f, hb, hk => by
    rw [World.setCells, setCells_blk b vs (k + 1) (w.setCell ⟨b, k, none⟩ v) (c.setIfInBounds k v) t f (by
      have := Joins.block_setCell (i := k) hb v; exact this) (by simp at hk ⊢; omega)]
    have hl : k < c.toList.length := by simp at hk ⊢; omega
    have e : (List.take (k + 1) (c.setIfInBounds k v).toList ++ vs ++ List.drop (k + 1 + vs.length) (c.setIfInBounds k v).toList) = (List.take k c.toList ++ (v :: vs) ++ List.drop (k + (v :: vs).length) c.toList) := by
      rw [Array.toList_setIfInBounds, List.take_succ_eq_append_getElem (by simpa using hl), List.getElem_set_self, List.take_set, List.set_eq_of_length_le (by simp; omega), List.drop_set, if_pos (by omega)]
      simp only [List.length_cons, List.append_assoc, List.cons_append, List.nil_append]
      rw [show k + 1 + vs.length = k + (vs.length + 1) by omega]
    rw [e]
    refine World.eq_of ?_ rfl rfl rfl rfl
    apply Array.ext_getElem?
    intro j
    by_cases e : j = b
    · subst e; rw [setBlk_same _ j _ _ t f (Joins.block_setCell (i := k) hb v), setBlk_same _ j _ c t f hb]
    · rw [setBlk_block _ _ _ _ e, setBlk_block _ _ _ _ e, Below.heap_setCell _ _ _ _ e]
theorem wpl_storeR {dst : Option Tmp} {ty : TypeId} {pos : String} {after : Array Edge} {guard : Option (Nat × Bool)} {x y : Operand} {b off : Nat} {c : Array Value} (RT : RowTy T n z) (hw : Region.wanted ⟨dst, .store T x y, ty, pos, after, guard⟩ (yielded ops a.tmps) = true) (hx : a.eval x = .pointer (some ⟨b, off, none⟩)) (hy : a.eval y = .agg c) (hc : Cells n c)
    {c0 c1 : Array Value} {t : TypeId} {w' : World} (hb : blk w b = some (.cells c0 t (0, 0))) (hn : off + n ≤ c0.size) (hs : splice c0 off c = c1) (hp : SetTo w b c1 w')
    (h : wpList Try.prog ops Q rest (a.put dst undef) w') : wpList Try.prog ops Q (⟨dst, .store T x y, ty, pos, after, guard⟩ :: rest) a w := by
  obtain ⟨_, rfl⟩ := hp
  subst hs
  refine BigFrame.wpList_want hw fun K hK => wp_store_mid T x y rfl b off c hx hy (fun j hj => ⟨?_, frozen_of_row w b (off + j) c0 t hb⟩) (by rw [RT.size, hc.1]) hc.2 (hK _ _ ?_)
  · rw [cell_of_row w b (off + j) c0 t _ hb, Array.getElem?_eq_getElem (by have := hc.1; omega)]; rfl
  · rw [setCells_blk b c.toList off w c0 t _ hb (by have := hc.1; simp; omega)]
    unfold splice at h
    simpa using h
theorem wpl_storeC {dst : Option Tmp} {ty : TypeId} {pos : String} {after : Array Edge} {guard : Option (Nat × Bool)} {x y : Operand} {b off : Nat} {v : Value} (CT : CellTy T) (hw : Region.wanted ⟨dst, .store T x y, ty, pos, after, guard⟩ (yielded ops a.tmps) = true) (hx : a.eval x = .pointer (some ⟨b, off, none⟩)) (hy : a.eval y = v) (hc : v.cells = #[v] ∧ v.oneCell' = true)
    {c0 c1 : Array Value} {t : TypeId} {w' : World} (hb : blk w b = some (.cells c0 t (0, 0))) (hn : off < c0.size) (hs : c0.setIfInBounds off v = c1) (hp : SetTo w b c1 w')
    (h : wpList Try.prog ops Q rest (a.put dst undef) w') : wpList Try.prog ops Q (⟨dst, .store T x y, ty, pos, after, guard⟩ :: rest) a w := by
  obtain ⟨_, rfl⟩ := hp
  subst hs
  refine BigFrame.wpList_want hw fun K hK => ?_
  have hsz : (sizeOf T).run Try.prog w = .ok 1 w := by
    have := CT.size
    cases hi : Try.prog.info? T with
    | none => rw [hi] at this; cases this
    | some i => rw [hi] at this; simp at this; simp [sizeOf, typeInfo, hi, this, go_sem]
  have hcell : (w.cell? ⟨b, off, none⟩).isSome = true := by rw [cell_of_row w b off c0 t _ hb, Array.getElem?_eq_getElem hn]; rfl
  have hfr : w.frozen? ⟨b, off, none⟩ = false := frozen_of_row w b off c0 t hb
  have e : setBlk w b (c0.setIfInBounds off v) = w.setCell ⟨b, off, none⟩ v := by
    refine World.eq_of ?_ rfl rfl rfl rfl
    apply Array.ext_getElem?
    intro j
    by_cases e : j = b
    · subst e; rw [setBlk_same _ j _ c0 t _ hb, Joins.block_setCell (i := off) hb]
    · rw [setBlk_block _ _ _ _ e, Below.heap_setCell _ _ _ _ e]
  rw [e] at h
  obtain ⟨u, hu⟩ := Option.isSome_iff_exists.1 hcell
  unfold Oper.wp execOp
  simp only [hx, hy, Instr.storeAt, Instr.sureAddr, storeVar, Sem.run_bind, Sem.run_pure, Result.andThen_ok, hsz, hc.1]
  have hst : (store ⟨b, off, none⟩ v).run Try.prog w = .ok () (w.setCell ⟨b, off, none⟩ v) := by rw [run_store _ _ _ _ _ hc.2, hu]; simp [hfr]
  simp [storeCells, go_sem, hst]
  exact hK _ _ h
theorem wpl_allocR {dst : Option Tmp} {ty : TypeId} {pos : String} {after : Array Edge} {guard : Option (Nat × Bool)} (RT : RowTy T n z) (hw : Region.wanted ⟨dst, .alloc T, ty, pos, after, guard⟩ (yielded ops a.tmps) = true) (h : wpList Try.prog ops Q rest (a.put dst (.pointer (some ⟨w.heap.size, 0, none⟩))) (w.alloc (.cells z T))) : wpList Try.prog ops Q (⟨dst, .alloc T, ty, pos, after, guard⟩ :: rest) a w := by
  refine BigFrame.wpList_want hw fun K hK => ?_
  have hz := RT.zero
  cases hi : Try.prog.info? T with
  | none => rw [hi] at hz; cases hz
  | some i =>
    rw [hi] at hz
    have hz' : i.zero = some (.agg z) := hz
    unfold Oper.wp execOp
    simp [Instr.alloc, zeroValue, typeInfo, hi, hz', newVar, newRow, Value.cells, go_sem]
    exact hK _ _ h
theorem ret_rowR (RT : RowTy T n z) {fn : Func} {p : Tmp} (hf : fn.results = #[.cell p T]) {R : Ending → World → Prop} {b : Nat} (hp : a.tmps.getD p undef = .pointer (some ⟨b, 0, none⟩)) (hd : a.defers = [])
    {c : Array Value} {t : TypeId} {f : Nat × Nat} (hb : blk w b = some (.cells c t f)) (hn : c.size = n) (h : R (.returned (.agg c)) w) : bodyPost Try.prog fn R .ret a w := by
  obtain ⟨d, hu, hr⟩ := RT.und
  exact bodyPost_ret (v := .agg c) (results_cell_row hf _ w b t c f d hp hb hu (by cases d <;> first | rfl | (simp [TypeDesc.isRow] at hr)) (by rw [RT.size, hn])) hd h
end
end Go.Proofs.Ytjipelhcgglhhaa
