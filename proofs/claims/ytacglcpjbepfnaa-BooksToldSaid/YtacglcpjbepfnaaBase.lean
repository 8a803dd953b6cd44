/- Slices as lists of cells: readable rows (Rd), rows in new memory (Own), and the laws by which append, make and slicing act on them. -/
import Derived.Test.YtacglcpjbepfnaaBits
import Derived.WalkKit
import Derived.WalkSpells
import Derived.Handy
import Derived.Lib.Hide
import Derived.Laws.BytesArg
import Derived.Laws.BytesString
namespace Go.Proofs.Ytacglcpjbepfnaa
open Go.RowKit
set_option linter.unusedVariables false
set_option linter.unusedSimpArgs false

theorem Rd.nil (w : World) (a : Option Addr) : Rd w a [] := fun i h => by simp at h
theorem Rd.lt {w : World} {a : Option Addr} {xs : List Value} (h : Rd w a xs) (hx : 0 < xs.length) : ∃ b o, a = some ⟨b, o, none⟩ ∧ b < w.heap.size := by
  obtain ⟨b, o, e, hc⟩ := h 0 hx
  exact ⟨b, o, e, by simpa using World.block_lt_of_cell? w _ hc⟩
theorem Rd.get {w : World} {b o : Nat} {sp : Option Nat} {xs : List Value} (h : Rd w (some ⟨b, o, sp⟩) xs) {i : Nat} (hi : i < xs.length) : w.cell? ⟨b, o + i, none⟩ = some xs[i] := by
  obtain ⟨b', o', e, hc⟩ := h i hi
  simp only [Option.some.injEq, Addr.mk.injEq] at e
  obtain ⟨rfl, rfl, _⟩ := e
  exact hc
theorem Rd.same {w w' : World} {a : Option Addr} {xs : List Value} (h : Rd w a xs) (hb : ∀ b o sp, a = some ⟨b, o, sp⟩ → w'.heap[b]? = w.heap[b]?) : Rd w' a xs := by
  intro i hi
  obtain ⟨b, o, e, hc⟩ := h i hi
  refine ⟨b, o, e, ?_⟩
  rw [World.cell?_of_block (w := w) (a := ⟨b, o + i, none⟩) (hb b o none e)]; exact hc
theorem Rd.blocks {w w' : World} {B : Nat} {a : Option Addr} {xs : List Value} (h : Rd w a xs) (hb : ∀ k, k < B → w'.heap[k]? = w.heap[k]?) (hB : ∀ b o sp, a = some ⟨b, o, sp⟩ → b < B) : Rd w' a xs :=
  h.same fun b o sp e => hb b (hB b o sp e)
/-- What could be read ahead of a call that writes nothing old can be read behind it. -/
theorem Rd.below {w w' : World} {a : Option Addr} {xs : List Value} (h : Rd w a xs) (hb : Below w.heap.size w w') : Rd w' a xs := by
  intro i hi
  obtain ⟨b, o, e, hc⟩ := h i hi
  refine ⟨b, o, e, ?_⟩
  have hlt : b < w.heap.size := by simpa using World.block_lt_of_cell? w _ hc
  rw [World.cell?_of_block (w := w) (a := ⟨b, o + i, none⟩) (hb.block b hlt)]; exact hc
theorem Rd.belowB {w w' : World} {B : Nat} {a : Option Addr} {xs : List Value} (h : Rd w a xs) (hb : Below B w w') (hB : w.heap.size ≤ B) : Rd w' a xs := h.below (hb.mono hB)
theorem Rd.take {w : World} {a : Option Addr} {xs : List Value} (h : Rd w a xs) (n : Nat) : Rd w a (xs.take n) := by
  intro i hi
  have hi' : i < xs.length := by simp at hi; omega
  obtain ⟨b, o, e, hc⟩ := h i hi'
  exact ⟨b, o, e, by rw [hc]; simp⟩
theorem Rd.drop {w : World} {b o : Nat} {sp : Option Nat} {xs : List Value} (h : Rd w (some ⟨b, o, sp⟩) xs) (n : Nat) : Rd w (some ⟨b, o + n, none⟩) (xs.drop n) := by
  intro i hi
  have hi' : n + i < xs.length := by simp at hi; omega
  refine ⟨b, o + n, rfl, ?_⟩
  have := h.get hi'
  rw [show o + n + i = o + (n + i) by omega, this]; simp
/-- A block's own cells, from some place on. -/
theorem Rd.ofBlock {w : World} {g off : Nat} {cur : Array Value} {e : TypeId} {fz : Nat × Nat} (h : w.heap[g]? = some (.cells cur e fz)) (xs : List Value)
    (hx : ∀ i (hi : i < xs.length), cur[off + i]? = some xs[i]) : Rd w (some ⟨g, off, none⟩) xs := by
  intro i hi
  refine ⟨g, off, rfl, ?_⟩
  simp only [World.cell?, h]
  simpa using hx i hi

theorem Rd.lit (w : World) (cs : Array Value) (e : TypeId) (fz : Nat × Nat) : Rd (w.alloc (.cells cs e fz)) (some ⟨w.heap.size, 0, none⟩) cs.toList :=
  Rd.ofBlock (heap_alloc_new w _) _ (fun i hi => by simp at hi; simp [hi])
theorem Rd.alloc {w : World} {a : Option Addr} {xs : List Value} (h : Rd w a xs) (o : Obj) : Rd (w.alloc o) a xs := h.below ((Below.refl _ _).alloc (Nat.le_refl _) _)
theorem Rd.drew {w : World} {a : Option Addr} {xs : List Value} (h : Rd w a xs) : Rd w.drew a xs := h.below (Below.refl _ _).drew

/-- A row in memory from block 'base' on, that nobody froze: its values are xs. -/
def Own (w : World) (base : Nat) (e : TypeId) (size : Nat) (v : Value) (n : Nat) (xs : List Value) : Prop :=
  xs.length = n * size ∧ ((v = .slice none 0 0 ∧ n = 0) ∨
    ∃ g off cap cur, v = .slice (some ⟨g, off, none⟩) n cap ∧ base ≤ g ∧ w.heap[g]? = some (.cells cur e (0, 0)) ∧ n ≤ cap ∧ cap ≤ maxLen ∧ off + cap * size ≤ cur.size ∧ (cur.toList.drop off).take (n * size) = xs)

theorem Own.ofRow {w : World} {base : Nat} {e : TypeId} {size : Nat} {v : Value} {n : Nat} {xs : List Value} (h : w.ownsRow base e size v n xs) : Own w base e size v n xs := by
  refine ⟨h.1, ?_⟩
  rcases h.2 with h2 | ⟨g, cap, cur, r1, r2, r3, r4, r5, r6, r7⟩
  · exact .inl h2
  · exact .inr ⟨g, 0, cap, cur, r1, r2, r3, r4, r5, by omega, by simpa using r7⟩
theorem Own.rd {w : World} {base : Nat} {e : TypeId} {size : Nat} {v : Value} {n : Nat} {xs : List Value} (h : Own w base e size v n xs) :
    ∃ ao c, v = .slice ao n c ∧ Rd w ao xs ∧ n ≤ c ∧ c ≤ maxLen ∧ (∀ b o sp, ao = some ⟨b, o, sp⟩ → base ≤ b ∧ b < w.heap.size) := by
  rcases h.2 with ⟨rfl, rfl⟩ | ⟨g, off, cap, cur, rfl, hb, hg, hn, hm, hs, hx⟩
  · have := h.1
    simp at this
    subst this
    exact ⟨none, 0, rfl, Rd.nil _ _, Nat.le_refl _, by unfold maxLen; omega, fun b o sp e => by cases e⟩
  · have hl := h.1
    refine ⟨_, cap, rfl, Rd.ofBlock hg xs (fun i hi => ?_), hn, hm, fun b o sp e => ?_⟩
    · subst hx
      simp only [List.length_take, List.length_drop, Array.length_toList] at hi
      simp only [List.getElem_take, List.getElem_drop, Array.getElem_toList]
      rw [Array.getElem?_eq_getElem]
    · simp only [Option.some.injEq, Addr.mk.injEq] at e
      obtain ⟨rfl, _⟩ := e
      exact ⟨hb, (Array.getElem?_eq_some_iff.1 hg).1⟩
theorem Own.same {w w' : World} {base : Nat} {e : TypeId} {size : Nat} {v : Value} {n : Nat} {xs : List Value} (h : Own w base e size v n xs)
    (hk : ∀ k, v.ownBlock = some k → w'.heap[k]? = w.heap[k]?) : Own w' base e size v n xs := by
  refine ⟨h.1, ?_⟩
  rcases h.2 with h2 | ⟨g, off, cap, cur, rfl, hb, hg, r⟩
  · exact .inl h2
  · exact .inr ⟨g, off, cap, cur, rfl, hb, by rw [hk g rfl]; exact hg, r⟩
theorem Own.below {w w' : World} {base : Nat} {e : TypeId} {size : Nat} {v : Value} {n : Nat} {xs : List Value} (h : Own w base e size v n xs) (hb : Below w.heap.size w w') : Own w' base e size v n xs := by
  refine h.same fun k hk => ?_
  rcases h.2 with ⟨rfl, _⟩ | ⟨g, off, cap, cur, rfl, _, hg, _⟩
  · simp [Value.ownBlock] at hk
  · simp [Value.ownBlock] at hk
    subst hk
    exact hb.block _ (Array.getElem?_eq_some_iff.1 hg).1
theorem Own.mono {w : World} {base base' : Nat} {e : TypeId} {size : Nat} {v : Value} {n : Nat} {xs : List Value} (h : Own w base e size v n xs) (hb : base' ≤ base) : Own w base' e size v n xs := by
  refine ⟨h.1, ?_⟩
  rcases h.2 with h2 | ⟨g, off, cap, cur, r1, r2, r⟩
  · exact .inl h2
  · exact .inr ⟨g, off, cap, cur, r1, by omega, r⟩
/-- s[:len(s):len(s)] of a row. -/
theorem Own.clip {w : World} {base : Nat} {e : TypeId} {size : Nat} {ao : Option Addr} {n c : Nat} {xs : List Value} (h : Own w base e size (.slice ao n c) n xs) : Own w base e size (.slice ao n n) n xs := by
  refine ⟨h.1, ?_⟩
  rcases h.2 with ⟨e1, rfl⟩ | ⟨g, off, cap, cur, e1, r2, r3, r4, r5, r6, r7⟩
  · simp only [Value.slice.injEq] at e1
    exact .inl ⟨by rw [e1.1], rfl⟩
  · simp only [Value.slice.injEq, true_and] at e1
    obtain ⟨rfl, rfl⟩ := e1
    exact .inr ⟨g, off, n, cur, rfl, r2, r3, Nat.le_refl _, by omega, by have := Nat.mul_le_mul_right size r4; omega, r7⟩

/-- A store into one of the row's own cells. -/
theorem Own.set {w : World} {base : Nat} {e : TypeId} {size g off n c : Nat} {xs : List Value} (h : Own w base e size (.slice (some ⟨g, off, none⟩) n c) n xs) (j : Nat) (hj : j < n * size) (u : Value) :
    Own (w.setCell ⟨g, off + j, none⟩ u) base e size (.slice (some ⟨g, off, none⟩) n c) n (xs.set j u) := by
  refine ⟨by simpa using h.1, ?_⟩
  rcases h.2 with ⟨h', _⟩ | ⟨g', off', cap, cur, h', hb, hg, hn, hm, hs, hx⟩
  · simp at h'
  · simp only [Value.slice.injEq, Option.some.injEq, Addr.mk.injEq, and_true, true_and] at h'
    obtain ⟨⟨rfl, rfl⟩, rfl⟩ := h'
    refine .inr ⟨g, off, c, cur.setIfInBounds (off + j) u, rfl, hb, heap_setCell_same w g (off + j) cur e u hg, hn, hm, by simpa using hs, ?_⟩
    subst hx
    simp only [Array.toList_setIfInBounds]
    rw [List.drop_set, if_neg (by omega), show off + j - off = j by omega, List.take_set]
theorem Own.frozenAt {w : World} {base : Nat} {e : TypeId} {size g off n c : Nat} {xs : List Value} (h : Own w base e size (.slice (some ⟨g, off, none⟩) n c) n xs) (j : Nat) : w.frozen? ⟨g, j, none⟩ = false := by
  rcases h.2 with ⟨h', _⟩ | ⟨g', off', cap, cur, h', hb, hg, _⟩
  · simp at h'
  · simp only [Value.slice.injEq, Option.some.injEq, Addr.mk.injEq, and_true, true_and] at h'
    obtain ⟨⟨rfl, rfl⟩, rfl⟩ := h'
    exact frozen_of_row w g j cur e hg
theorem Own.drewN {w : World} {base : Nat} {e : TypeId} {size : Nat} {v : Value} {n : Nat} {xs : List Value} (h : Own w base e size v n xs) : Own w.drew base e size v n xs := h.below (Below.refl _ _).drew
theorem Own.ge {w : World} {base : Nat} {e : TypeId} {size g off n c : Nat} {xs : List Value} (h : Own w base e size (.slice (some ⟨g, off, none⟩) n c) n xs) : base ≤ g := by
  rcases h.2 with ⟨h', _⟩ | ⟨g', off', cap, cur, h', hb, hg, _⟩
  · simp at h'
  · simp only [Value.slice.injEq, Option.some.injEq, Addr.mk.injEq, and_true, true_and] at h'
    obtain ⟨⟨rfl, rfl⟩, rfl⟩ := h'
    exact hb

/-- What a slice type's row of the program's table says. -/
structure SlTy (P : Program) (t e size bytes : Nat) (z : Value) : Prop where
  und : P.underlying t = some (.slice e)
  inf : ∃ i, P.info? e = some i ∧ i.zero = some z ∧ i.size = size ∧ i.bytes = bytes
  zc : z.cells.size = size
  pos : 0 < size

theorem addr_add (b o j : Nat) : (⟨b, o, none⟩ : Addr).add j = ⟨b, o + j, none⟩ := by
  unfold Addr.add; split <;> simp_all

theorem run_append_none {P : Program} (w : World) {t e size bytes : Nat} {z : Value} (T : SlTy P t e size bytes z) (ty : TypeId) (v : Value) (n : Nat) (base : Nat) (xs : List Value) (hown : w.ownsRow base e size v n xs) (c : Nat) :
    (Builtin.append_ #[t, t] ty #[v, .slice none 0 c]).run P w = .ok v w := by
  obtain ⟨i, hi, hz, hs, hb⟩ := T.inf
  rcases hown.2 with ⟨rfl, rfl⟩ | ⟨g, cap, cur, rfl, _, _, hnc, _⟩
  · simp [Builtin.append_, run_underlying T.und, sizeOf, typeInfo, hi, Builtin.lenOf, Builtin.firstCells]
  · simp [Builtin.append_, run_underlying T.und, sizeOf, typeInfo, hi, Builtin.lenOf, Builtin.firstCells, hnc, storeCells]

/-- append(s, x...): s a row of the call's own (or nil), x whatever row can be read. -/
theorem wpl_append {P : Program} {w : World} {ops : Array Oper} {rest : List Oper} {o : Oper} {a : Act} {Q : Exit → Act → World → Prop} (hgd : o.guard = none) (s x : Operand) (t : TypeId)
    (ho : o.op = .call { callee := .builtin .append, args := #[s, x], argTypes := #[t, t] })
    {e size bytes : Nat} {z : Value} (T : SlTy P t e size bytes z) (base : Nat)
    (v : Value) (n : Nat) (xs : List Value) (hs : a.eval s = v) (hown : w.ownsRow base e size v n xs)
    (ao : Option Addr) (m c : Nat) (news : List Value) (hx : a.eval x = .slice ao m c) (hl : news.length = m * size) (hrd : Rd w ao news) (h1 : ∀ u ∈ news, u.oneCell' = true)
    (h63 : n + m ≤ maxLen) (hbytes : (n + m) * bytes ≤ 140737488355328) (hbase : base ≤ w.heap.size)
    (h : ∀ v' w', w'.ownsRow base e size v' (n + m) (xs ++ news) → w.grownBy w' v.ownBlock → (v' = .slice none 0 0 ↔ v = .slice none 0 0 ∧ m = 0) → wpList P ops Q rest (a.put o.dst v') w') : wpList P ops Q (o :: rest) a w := by
  obtain ⟨i, hi, hz, hsz, hb⟩ := T.inf
  have hpos := T.pos
  rcases ao with _ | ⟨b, off, sp⟩
  · have hm : m = 0 := by
      rcases Nat.eq_zero_or_pos news.length with h0 | h0
      · rw [h0] at hl
        rcases Nat.eq_zero_or_pos m with h' | h'
        · exact h'
        · have := Nat.mul_pos h' hpos; omega
      · obtain ⟨b, o, e, _⟩ := hrd 0 h0
        cases e
    subst hm
    have hne : news = [] := List.eq_nil_of_length_eq_zero (by simpa using hl)
    subst hne
    refine wpList_plain hgd fun K hK => ?_
    have hrun := run_append_none w T o.type v n base xs hown c
    unfold Oper.wp
    simp [execOp, ho, resolve, invoke, builtin, hs, hx, hrun, Result.andThen]
    exact hK _ _ (by simpa using h v w (by simpa using hown) (World.grownBy.refl _ _) (by simp))
  · refine wpList_append_own w hgd s x t ho base e i z size bytes T.und hi hz hsz hb T.zc T.pos v n xs hs hown ⟨b, off, sp⟩ m c news hx hl ?_ h1 h63 hbytes hbase h
    intro j u hu
    obtain ⟨hj, rfl⟩ := List.getElem?_eq_some_iff.1 hu
    obtain ⟨b', o', e', hc⟩ := hrd j hj
    simp only [Option.some.injEq, Addr.mk.injEq] at e'
    obtain ⟨rfl, rfl, rfl⟩ := e'
    rw [addr_add]; exact hc

theorem Rd.addr {w : World} {a : Addr} {xs : List Value} (h : Rd w (some a) xs) : ∀ j v, xs[j]? = some v → w.cell? (a.add j) = some v := by
  intro j v hv
  obtain ⟨hj, rfl⟩ := List.getElem?_eq_some_iff.1 hv
  obtain ⟨b, o, e, hc⟩ := h j hj
  obtain rfl := Option.some.inj e
  rw [addr_add]; exact hc
/-- Behind an append the row lies where it lay, or in a new block. -/
theorem run_append_block {P : Program} (w : World) {t e size bytes : Nat} {z : Value} (T : SlTy P t e size bytes z) (ty : TypeId) (base : Nat)
    (v : Value) (n : Nat) (xs : List Value) (hown : w.ownsRow base e size v n xs) (a : Addr) (m c : Nat) (news : List Value) (hl : news.length = m * size) (hnews : ∀ j u, news[j]? = some u → w.cell? (a.add j) = some u) (h1 : ∀ u ∈ news, u.oneCell' = true)
    (h63 : n + m ≤ maxLen) (hbytes : (n + m) * bytes ≤ 140737488355328) :
    ∃ v' w', (Builtin.append_ #[t, t] ty #[v, .slice (some a) m c]).run P w = .ok v' w' ∧ (v'.ownBlock = v.ownBlock ∨ v'.ownBlock = some w.heap.size) := by
  obtain ⟨i, hi, hz, hsz, hb⟩ := T.inf
  subst hsz
  subst hb
  have hsmall : n + m ≤ 9223372036854775807 := by simp only [maxLen] at h63; omega
  rcases hown.2 with ⟨rfl, rfl⟩ | ⟨g, cap, cur, rfl, hbg, hg, hnc, hcm, hcs, htake⟩
  · by_cases hm : m = 0
    · subst hm
      have hn : news = [] := List.eq_nil_of_length_eq_zero (by simpa using hl)
      subst hn
      refine ⟨.slice none 0 0, w, ?_, .inl rfl⟩
      simp [Builtin.append_, run_underlying T.und, sizeOf, typeInfo, hi, Builtin.lenOf, Builtin.firstCells, loadCells, loadCellsFrom]
    · exact ⟨_, _, run_append_nil (P := P) w t ty e i z T.und hi hz a m c news hl hnews (by omega) (by omega) (by have hb := hbytes; simp only [Nat.zero_add] at hb; omega), .inr rfl⟩
  · by_cases hroom : n + m ≤ cap
    · have hfit : n * i.size + news.length ≤ cur.size := by rw [hl, hcs, ← Nat.add_mul]; exact Nat.mul_le_mul_right _ hroom
      exact ⟨_, _, run_append_room (P := P) w t ty e i T.und hi g n cap cur hg a m c news hl hnews h1 hroom hfit, .inl rfl⟩
    · have holds : ∀ j u, xs[j]? = some u → w.cell? ((⟨g, 0, none⟩ : Addr).add j) = some u := hown.cells (g := g) rfl
      exact ⟨_, _, run_append_grow (P := P) w t ty e i z T.und hi hz ⟨g, 0, none⟩ n cap xs hown.1 holds a m c news hl hnews (by omega) (by omega) (growslice_fits (by omega) hbytes), .inr rfl⟩
/-- append(s, x...), with the word on where the row lies then. -/
theorem wpl_appendB {P : Program} {w : World} {ops : Array Oper} {rest : List Oper} {o : Oper} {a : Act} {Q : Exit → Act → World → Prop} (hgd : o.guard = none) (s x : Operand) (t : TypeId)
    (ho : o.op = .call { callee := .builtin .append, args := #[s, x], argTypes := #[t, t] })
    {e size bytes : Nat} {z : Value} (T : SlTy P t e size bytes z) (base : Nat)
    (v : Value) (n : Nat) (xs : List Value) (hs : a.eval s = v) (hown : w.ownsRow base e size v n xs)
    (b off m c : Nat) (news : List Value) (hx : a.eval x = .slice (some ⟨b, off, none⟩) m c) (hl : news.length = m * size) (hrd : Rd w (some ⟨b, off, none⟩) news) (h1 : ∀ u ∈ news, u.oneCell' = true)
    (h63 : n + m ≤ maxLen) (hbytes : (n + m) * bytes ≤ 140737488355328) (hbase : base ≤ w.heap.size)
    (h : ∀ v' w', w'.ownsRow base e size v' (n + m) (xs ++ news) → w.grownBy w' v.ownBlock → (v'.ownBlock = v.ownBlock ∨ v'.ownBlock = some w.heap.size) → wpList P ops Q rest (a.put o.dst v') w') : wpList P ops Q (o :: rest) a w := by
  obtain ⟨i, hi, hz, hsz, hb⟩ := T.inf
  have hnews := hrd.addr
  obtain ⟨v1, w1, hr1, hbl⟩ := run_append_block w T o.type base v n xs hown ⟨b, off, none⟩ m c news hl hnews h1 h63 hbytes
  obtain ⟨v', w', hr, h2, h3, h4⟩ := run_append_own (P := P) w base t o.type e i z size bytes T.und hi hz hsz hb T.zc T.pos v n xs hown ⟨b, off, none⟩ m c news hl hnews h1 h63 hbytes hbase
  rw [hr1] at hr
  simp only [Result.ok.injEq] at hr
  obtain ⟨rfl, rfl⟩ := hr
  refine wpList_plain hgd fun K hK => ?_
  unfold Oper.wp execOp
  simp only [ho, resolve, invoke, builtin, Sem.run_bind, Sem.run_pure, Result.andThen_ok, List.map_toArray, List.map_cons, List.map_nil, hs, hx, hr1]
  exact hK _ _ (h _ _ h2 h3 hbl)

/-- append(s, x...) where there is room: s a row of the call's own, x whatever row can be read. -/
theorem wpl_fits {P : Program} {w : World} {ops : Array Oper} {rest : List Oper} {o : Oper} {a : Act} {Q : Exit → Act → World → Prop} (hgd : o.guard = none) (s x : Operand) (t : TypeId)
    (ho : o.op = .call { callee := .builtin .append, args := #[s, x], argTypes := #[t, t] })
    {e size bytes : Nat} {z : Value} (T : SlTy P t e size bytes z) (base : Nat)
    (g n cap : Nat) (xs : List Value) (hs : a.eval s = .slice (some ⟨g, 0, none⟩) n cap) (hown : w.ownsRow base e size (.slice (some ⟨g, 0, none⟩) n cap) n xs)
    (ao : Option Addr) (m c : Nat) (news : List Value) (hx : a.eval x = .slice ao m c) (hl : news.length = m * size) (hrd : Rd w ao news) (h1 : ∀ u ∈ news, u.oneCell' = true)
    (hroom : n + m ≤ cap)
    (h : ∀ w', w'.ownsRow base e size (.slice (some ⟨g, 0, none⟩) (n + m) cap) (n + m) (xs ++ news) → w.grownBy w' (some g) → wpList P ops Q rest (a.put o.dst (.slice (some ⟨g, 0, none⟩) (n + m) cap)) w') : wpList P ops Q (o :: rest) a w := by
  obtain ⟨i, hi, hz, hsz, hb⟩ := T.inf
  have hpos := T.pos
  rcases ao with _ | ⟨b, off, sp⟩
  · have hm : m = 0 := by
      rcases Nat.eq_zero_or_pos news.length with h0 | h0
      · rw [h0] at hl
        rcases Nat.eq_zero_or_pos m with h' | h'
        · exact h'
        · have := Nat.mul_pos h' hpos; omega
      · obtain ⟨b, o, e, _⟩ := hrd 0 h0
        cases e
    subst hm
    have hne : news = [] := List.eq_nil_of_length_eq_zero (by simpa using hl)
    subst hne
    refine wpList_plain hgd fun K hK => ?_
    have hrun := run_append_none w T o.type _ n base xs hown c
    unfold Oper.wp
    simp [execOp, ho, resolve, invoke, builtin, hs, hx, hrun, Result.andThen]
    exact hK _ _ (by simpa using h w (by simpa using hown) (World.grownBy.refl _ _))
  · refine wpList_append_fits w hgd s x t ho base e i size T.und hi hsz g n cap xs hs hown ⟨b, off, sp⟩ m c news hx hl ?_ h1 hroom h
    intro j u hu
    obtain ⟨hj, rfl⟩ := List.getElem?_eq_some_iff.1 hu
    obtain ⟨b', o', e', hc⟩ := hrd j hj
    simp only [Option.some.injEq, Addr.mk.injEq] at e'
    obtain ⟨rfl, rfl, rfl⟩ := e'
    rw [addr_add]; exact hc
/-- make([]T, 0, c). -/
theorem wpl_make0 {P : Program} (w : World) {ops : Array Oper} {rest : List Oper} {o : Oper} {a : Act} {Q : Exit → Act → World → Prop}
    (hgd : o.guard = none) (l c : Operand) (t : TypeId) (hop : o.op = Op.makeSlice t l c)
    {e size bytes : Nat} {z : Value} (T : SlTy P t e size bytes z) (base : Nat)
    (kl kc : IntKind) (C : Int) (n : Nat) (hl : a.eval l = .int kl 0) (hc : a.eval c = .int kc C) (hC : C = (n : Int)) (b2 : bytes * n ≤ 281474976710656) (b3 : n ≤ maxLen) (b4 : base ≤ w.heap.size)
    (hK : ∀ w', w'.ownsRow base e size (.slice (some ⟨w.heap.size, 0, none⟩) 0 n) 0 [] → w.grownBy w' none → wpList P ops Q rest (a.put o.dst (.slice (some ⟨w.heap.size, 0, none⟩) 0 n)) w') :
    wpList P ops Q (o :: rest) a w := by
  obtain ⟨i, hi, hz, hsz, hb⟩ := T.inf
  exact wpList_make_own w hgd l c t hop base e i z size T.und hi hz hsz kl kc C n hl hc hC (by rw [hb]; exact b2) b3 b4 hK

def strOf (zs : List (BitVec 8)) : ByteArray := ⟨(zs.map UInt8.ofBitVec).toArray⟩
theorem strOf_inj {a b : List (BitVec 8)} : strOf a = strOf b ↔ a = b := by
  unfold strOf
  constructor
  · intro h
    have h2 : a.map UInt8.ofBitVec = b.map UInt8.ofBitVec := by simpa using h
    exact (List.map_inj_right (fun x y (e : UInt8.ofBitVec x = UInt8.ofBitVec y) => by cases e; rfl)).1 h2
  · rintro rfl; rfl
theorem strOf_toList_inj {a b : List (BitVec 8)} (h : (strOf a).toList = (strOf b).toList) : strOf a = strOf b := by
  have h1 : ∀ s : ByteArray, s.toList = s.data.toList := fun s => by rw [ByteArray.toList_eq]
  rw [h1, h1] at h
  unfold strOf at *
  simpa using h
/-- string(bytes). -/
theorem run_toString {P : Program} (w : World) {src dst e : TypeId} (hs : P.underlying src = some (.slice e)) (he : P.underlying e = some (.int .u8)) (hd : P.underlying dst = some .string)
    (a : Option Addr) (n c : Nat) (zs : List (BitVec 8)) (hn : n = zs.length) (hrd : Rd w a (zs.map B8)) : (convert src dst (.slice a n c)).run P w = .ok (.string (strOf zs)) w := by
  subst hn
  rw [run_convert_bytes_string w src dst e a _ c hs he hd]
  rcases a with _ | a
  · have : zs = [] := by
      rcases zs with _ | ⟨z, zs⟩
      · rfl
      · obtain ⟨b, o, e, _⟩ := hrd 0 (by simp)
        cases e
    subst this
    rfl
  · have h1 := run_loadCells_list (P := P) w a (zs.map B8) hrd.addr
    have h2 : zs.map B8 = (zs.map I8).map (Value.int .u8) := by rw [List.map_map]; rfl
    rw [run_bytesToString w a zs.length c (zs.map I8) (by rw [List.length_map] at h1; rw [h1, h2])]
    rw [foldl_push_bytes]
    congr 2
    unfold strOf
    have e0 : ByteArray.empty.data = #[] := rfl
    rw [e0, Array.empty_append, List.map_map]
    congr 2
    apply List.map_congr_left
    intro b _
    have := b.isLt
    simp only [Function.comp, I8]
    apply UInt8.eq_of_toBitVec_eq
    apply BitVec.eq_of_toNat_eq
    simp

/-- Where s[lo:hi] begins. -/
def cutA (a : Option Addr) (cap lo size : Nat) : Option Addr := if cap = lo then a else a.map (fun x => x.add (lo * size))
theorem Rd.cutA {w : World} {a : Option Addr} {xs : List Value} (h : Rd w a xs) (cap lo hi size : Nat) (hh : hi ≤ cap) : Rd w (cutA a cap lo size) ((xs.drop (lo * size)).take ((hi - lo) * size)) := by
  unfold Proofs.Ytacglcpjbepfnaa.cutA
  split
  · rename_i hc
    subst hc
    rw [show hi - cap = 0 by omega]
    simpa using Rd.nil _ _
  · refine Rd.take ?_ _
    intro i hi
    have hi' : lo * size + i < xs.length := by simp at hi; omega
    obtain ⟨b, o, rfl, hc⟩ := h (lo * size + i) hi'
    exact ⟨b, o + lo * size, by simp [addr_add], by rw [Nat.add_assoc, hc]; simp⟩
theorem run_cut {P : Program} {t e size bytes : Nat} {z : Value} (T : SlTy P t e size bytes z) (a : Option Addr) (len cap lo hi : Nat) (k1 k2 : IntKind) (h1 : lo ≤ hi) (h2 : hi ≤ cap) (w : World) :
    (Instr.slice t (.slice a len cap) (some (.int k1 (lo : Int))) (some (.int k2 (hi : Int))) none).run P w = .ok (.slice (cutA a cap lo size) (hi - lo) (cap - lo)) w := by
  obtain ⟨i, hi', hz, hs, hb⟩ := T.inf
  simp [Instr.slice, Instr.sliceBounds, Instr.sliceBound, run_underlying T.und, asIntOf, sizeOf, typeInfo, hi', hs, cutA, h1, h2, go_sem]
theorem run_cutTo {P : Program} {t e size bytes : Nat} {z : Value} (T : SlTy P t e size bytes z) (a : Option Addr) (len cap hi : Nat) (k2 : IntKind) (h2 : hi ≤ cap) (w : World) :
    (Instr.slice t (.slice a len cap) none (some (.int k2 (hi : Int))) none).run P w = .ok (.slice a hi cap) w := by
  obtain ⟨i, hi', hz, hs, hb⟩ := T.inf
  simp [Instr.slice, Instr.sliceBounds, Instr.sliceBound, run_underlying T.und, asIntOf, sizeOf, typeInfo, hi', h2, go_sem]
theorem run_cutFrom {P : Program} {t e size bytes : Nat} {z : Value} (T : SlTy P t e size bytes z) (a : Option Addr) (len cap lo : Nat) (k1 : IntKind) (h1 : lo ≤ len) (w : World) :
    (Instr.slice t (.slice a len cap) (some (.int k1 (lo : Int))) none none).run P w = .ok (.slice (cutA a cap lo size) (len - lo) (cap - lo)) w := by
  obtain ⟨i, hi', hz, hs, hb⟩ := T.inf
  simp [Instr.slice, Instr.sliceBounds, Instr.sliceBound, run_underlying T.und, asIntOf, sizeOf, typeInfo, hi', hs, cutA, h1, go_sem]

theorem run_min2 {P : Program} {w : World} (ts : Array TypeId) (t : TypeId) (k k' : IntKind) (x y : Int) : (Builtin.min_ ts t #[.int k x, .int k' y]).run P w = .ok (.int k (min x y)) w := by
  rw [run_min_int2]; congr 2; rw [Int.min_def]; split <;> split <;> omega
theorem take_ne {α : Type} {xs ys : List α} {k : Nat} (hx : k < xs.length) (hy : k < ys.length) (h : xs[k] ≠ ys[k]) : xs ≠ ys := by rintro rfl; exact h rfl
theorem take_snoc_eq {α : Type} {xs ys : List α} {k : Nat} (hx : k < xs.length) (hy : k < ys.length) (h : xs.take k = ys.take k) (he : xs[k] = ys[k]) : xs.take (k + 1) = ys.take (k + 1) := by
  rw [List.take_succ_eq_append_getElem hx, List.take_succ_eq_append_getElem hy, h, he]
theorem oneCell_B8 (zs : List (BitVec 8)) : ∀ u ∈ zs.map B8, u.oneCell' = true := by
  intro u hu; obtain ⟨b, _, rfl⟩ := List.mem_map.1 hu; rfl

end Go.Proofs.Ytacglcpjbepfnaa
