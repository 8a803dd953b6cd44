/- FramesSpoilt: part 4 of its proof: HeapOwn, HeapSlide, Full, BkApart, Frame. -/
import Derived.Test.YtlinhcbjljcgbaaDoorFramesSpoiltPart3
import Derived.Lib.AppendZeros
import Derived.Laws.MakeOwn
import Derived.Laws.OwnMore
import Derived.Lib.BufferMore
/- Slices of one's own over a memory of things: rows that grow by append. -/
namespace Go.Proofs.YtlinhcbjljcgbaaDoor
open Go.RowKit
set_option linter.unusedSimpArgs false
set_option linter.unusedVariables false
theorem slTy_mk {P : Program} {t e size bytes : Nat} {z : Value} (h1 : P.underlying t = some (.slice e)) (h2 : (P.info? e).map (fun i => (i.zero, i.size, i.bytes)) = some (some z, size, bytes))
    (h3 : z.cells.size = size) (h4 : 0 < size) : SlTy P t e size bytes z := by
  obtain ⟨j, hj, he⟩ := Option.map_eq_some_iff.1 h2
  simp only [Prod.mk.injEq] at he
  exact ⟨h1, ⟨j, hj, he.1, he.2.1, he.2.2⟩, h3, h4⟩
def OneCells (cs : List Value) : Prop := ∀ u ∈ cs, u.oneCell' = true
theorem ownsRow_mono {w : World} {b b' e size : Nat} {v : Value} {n : Nat} {xs : List Value} (h : w.ownsRow b e size v n xs) (hb : b' ≤ b) : w.ownsRow b' e size v n xs := by
  obtain ⟨h1, h2⟩ := h
  refine ⟨h1, ?_⟩
  rcases h2 with h2 | ⟨g, cap, cur, e, hg, r⟩
  · exact .inl h2
  · exact .inr ⟨g, cap, cur, e, by omega, r⟩
theorem ownsRow_fp {w : World} {b e size : Nat} {v : Value} {n : Nat} {xs : List Value} (h : w.ownsRow b e size v n xs) : ∀ k, v.ownBlock = some k → b ≤ k ∧ k < w.heap.size := by
  obtain ⟨h1, ⟨rfl, _⟩ | ⟨g, cap, cur, rfl, hg, hh, r⟩⟩ := h
  · intro k hk; cases hk
  · intro k hk
    obtain rfl : g = k := by simpa [Value.ownBlock] using hk
    exact ⟨hg, (Array.getElem?_eq_some_iff.1 hh).1⟩
/-- Behind a call that left all as it was and owns a new row. -/
theorem Heap.addRow {W w w' : World} {l : List Thing} {e size : Nat} {v : Value} {n : Nat} {xs : List Value} (H : Heap W l w) (hb : Below w.heap.size w w') (ho : w'.ownsRow w.heap.size e size v n xs) : Heap W (RowT e size v n xs :: l) w' :=
  H.add ⟨hb.os, hb.tape, hb.output, hb.size, fun k hk _ => hb.block k hk⟩ (ownsRow_mono ho (Nat.zero_le _)) (ownsRow_fp ho)
theorem Heap.celRd {W w : World} {l : List Thing} (H : Heap W l w) {p : Nat} {c : Array Value} {t : TypeId} (m : Cel p c t ∈ l) : Rd w (some ⟨p, 0, none⟩) c.toList := by
  intro i hi
  refine ⟨p, 0, rfl, ?_⟩
  rw [cell_of_row w p (0 + i) c t _ (H.blk m)]
  simp at hi
  simp [hi]
/-- A nil slice is a row of nothing. -/
theorem Heap.nilRow {W w : World} {l : List Thing} (e size : Nat) (H : Heap W l w) : Heap W (RowT e size (.slice none 0 0) 0 [] :: l) w :=
  H.add (World.grownBy.refl _ _) ⟨by simp, .inl ⟨rfl, rfl⟩⟩ (fun k hk => by cases hk)
section
variable {ops : Array Oper} {rest : List Oper} {o : Oper} {a : Act} {w W : World} {l : List Thing} {Q : Exit → Act → World → Prop}
/-- append(s, x...) to a row of one's own. -/
theorem wpl_appendH {t e size bytes : Nat} {z : Value} (T : SlTy Tryd.prog t e size bytes z) (hgd : o.guard = none) {s x : Operand}
    (ho : o.op = .call { callee := .builtin .append, args := #[s, x], argTypes := #[t, t] }) {v : Value} (hs : a.eval s = v) {b off m c : Nat} (hx : a.eval x = .slice (some ⟨b, off, none⟩) m c)
    {n : Nat} {xs news : List Value} (H : Heap W (RowT e size v n xs :: l) w) (hrd : Rd w (some ⟨b, off, none⟩) news) (hl : news.length = m * size) (h1 : OneCells news)
    (h63 : n + m ≤ maxLen) (hbytes : (n + m) * bytes ≤ 140737488355328)
    (h : ∀ v' w', Heap W (RowT e size v' (n + m) (xs ++ news) :: l) w' → wpList Tryd.prog ops Q rest (a.put o.dst v') w') : wpList Tryd.prog ops Q (o :: rest) a w := by
  refine wpl_appendB hgd s x t ho T 0 v n xs hs (H.ok _ List.mem_cons_self) b off m c news hx hl hrd h1 h63 hbytes (Nat.zero_le _) ?_
  intro v' w' hown hg hbl
  refine h v' w' (H.head hg hown ?_)
  rcases hbl with hbl | hbl
  · exact .inl hbl
  · refine .inr fun k hk => ?_
    have h2 := ownsRow_fp hown k hk
    have hk' : v'.ownBlock = some k := hk
    rw [hbl] at hk'
    cases hk'
    exact ⟨Nat.le_refl _, h2.2⟩
end
end Go.Proofs.YtlinhcbjljcgbaaDoor

/- Rows of one's own that begin anywhere in their block (a queue: s = s[1:], s = append(s, x)). -/
namespace Go.Proofs.YtlinhcbjljcgbaaDoor
open Go.RowKit
set_option linter.unusedSimpArgs false
set_option linter.unusedVariables false
/-- A row of a slice's value v, wherever in its block. -/
def OwnT (e size : Nat) (v : Value) (n : Nat) (xs : List Value) : Thing := ⟨v.ownBlock, fun w => Own w 0 e size v n xs, fun w w' h ho => ho.same h⟩
theorem RowT.own {w : World} {e size n : Nat} {v : Value} {xs : List Value} (h : (RowT e size v n xs).ok w) : (OwnT e size v n xs).ok w := Own.ofRow h
theorem Heap.slide {W w : World} {l : List Thing} {e size n : Nat} {v : Value} {xs : List Value} (H : Heap W (RowT e size v n xs :: l) w) : Heap W (OwnT e size v n xs :: l) w :=
  H.head (World.grownBy.refl _ _) (RowT.own (H.ok _ List.mem_cons_self)) (.inl rfl)
theorem Heap.ownRd {W w : World} {l : List Thing} {e size n c : Nat} {a : Option Addr} {xs : List Value} (H : Heap W l w) (m : OwnT e size (.slice a n c) n xs ∈ l) : Rd w a xs := by
  obtain ⟨ao, c', he, hr, _⟩ := Own.rd (H.ok _ m)
  simp only [Value.slice.injEq, true_and] at he
  obtain ⟨rfl, _⟩ := he
  exact hr
theorem OwnT.form {w : World} {e size n : Nat} {v : Value} {xs : List Value} (h : (OwnT e size v n xs).ok w) (hn : 0 < n) : ∃ g o c, v = .slice (some ⟨g, o, none⟩) n c ∧ n ≤ c ∧ c ≤ maxLen := by
  obtain ⟨_, ⟨_, rfl⟩ | ⟨g, off, cap, cur, rfl, _, _, h1, h2, _⟩⟩ := h
  · omega
  · exact ⟨g, off, cap, rfl, h1, h2⟩
/-- s[1:]. -/
theorem Own.tail {w : World} {base e size g off n c : Nat} {xs : List Value} (h : Own w base e size (.slice (some ⟨g, off, none⟩) n c) n xs) (hn : 1 ≤ n) :
    Own w base e size (.slice (cutA (some ⟨g, off, none⟩) c 1 size) (n - 1) (c - 1)) (n - 1) (xs.drop size) := by
  obtain ⟨hl, ⟨hv, _⟩ | ⟨g', off', cap, cur, hv, hb, hg, hnc, hcm, hs, ht⟩⟩ := h
  · cases hv
  · simp only [Value.slice.injEq, Option.some.injEq, Addr.mk.injEq, true_and] at hv
    obtain ⟨⟨rfl, rfl, _⟩, rfl⟩ := hv
    have hsz : n * size = size + (n - 1) * size := by
      obtain ⟨k, rfl⟩ : ∃ k, n = k + 1 := ⟨n - 1, by omega⟩
      rw [Nat.add_sub_cancel, Nat.add_mul]; omega
    refine ⟨by simp [hl]; omega, .inr ?_⟩
    by_cases hc : c = 1
    · subst hc
      obtain rfl : n = 1 := by omega
      refine ⟨g, off, 0, cur, by simp [cutA], hb, hg, by omega, by omega, by omega, ?_⟩
      simp only [Nat.sub_self, Nat.zero_mul, List.take_zero]
      rw [List.drop_of_length_le (by rw [hl]; omega)]
    · refine ⟨g, off + size, c - 1, cur, by simp [cutA, hc, addr_add], hb, hg, by omega, by omega, ?_, ?_⟩
      · have : c * size = size + (c - 1) * size := by
          obtain ⟨k, rfl⟩ : ∃ k, c = k + 1 := ⟨c - 1, by omega⟩
          rw [Nat.add_sub_cancel, Nat.add_mul]; omega
        omega
      · rw [← ht, hsz, List.drop_take, List.drop_drop, Nat.add_sub_cancel_left]
theorem Heap.ownTail {W w : World} {l : List Thing} {e size g off n c : Nat} {xs : List Value} (H : Heap W (OwnT e size (.slice (some ⟨g, off, none⟩) n c) n xs :: l) w) (hn : 1 ≤ n) :
    Heap W (OwnT e size (.slice (cutA (some ⟨g, off, none⟩) c 1 size) (n - 1) (c - 1)) (n - 1) (xs.drop size) :: l) w := by
  refine H.head (World.grownBy.refl _ _) (Own.tail (H.ok _ List.mem_cons_self) hn) (.inl ?_)
  unfold OwnT cutA
  simp only
  split
  · rfl
  · simp [Value.ownBlock, Addr.add]
    split <;> rfl
section
variable {P : Program}
theorem run_append_roomO (w : World) (t ty e : TypeId) (i : TypeInfo) (ht : P.underlying t = some (.slice e)) (hi : P.info? e = some i)
    (g off sLen sCap : Nat) (cur : Array Value) (hg : w.heap[g]? = some (.cells cur e (0, 0)))
    (a : Addr) (m c : Nat) (news : List Value) (hl : news.length = m * i.size) (hnews : ∀ j u, news[j]? = some u → w.cell? (a.add j) = some u) (h1 : ∀ u ∈ news, u.oneCell' = true)
    (hroom : sLen + m ≤ sCap) (hfit : off + sLen * i.size + news.length ≤ cur.size) :
    (Builtin.append_ #[t, t] ty #[.slice (some ⟨g, off, none⟩) sLen sCap, .slice (some a) m c]).run P w =
      .ok (.slice (some ⟨g, off, none⟩) (sLen + m) sCap) (w.setRow g (cur.toList.take (off + sLen * i.size) ++ news ++ cur.toList.drop (off + sLen * i.size + news.length)).toArray) := by
  have hf := run_firstCells_some (P := P) w i.size m a m c news hl hnews
  have hst := run_storeCells_at P g (off + sLen * i.size) e news 0 cur w hg (by simpa using hfit) h1
  simp only [Nat.add_zero] at hst
  have ha : (⟨g, off, none⟩ : Addr).add (sLen * i.size) = ⟨g, off + sLen * i.size, none⟩ := addr_add g off _
  simp [Builtin.append_, run_underlying ht, sizeOf, typeInfo, hi, Builtin.lenOf, hroom, hf, ha, hst]
end
section
variable {ops : Array Oper} {rest : List Oper} {o : Oper} {a : Act} {w W : World} {l : List Thing} {Q : Exit → Act → World → Prop}
/-- append(s, x...) to such a row. -/
theorem wpl_appendO {t e size bytes : Nat} {z : Value} (T : SlTy Tryd.prog t e size bytes z) (hgd : o.guard = none) {s x : Operand}
    (ho : o.op = .call { callee := .builtin .append, args := #[s, x], argTypes := #[t, t] }) {v : Value} (hs : a.eval s = v) {b off m c : Nat} (hx : a.eval x = .slice (some ⟨b, off, none⟩) m c)
    {n : Nat} {xs news : List Value} (H : Heap W (OwnT e size v n xs :: l) w) (hrd : Rd w (some ⟨b, off, none⟩) news) (hl : news.length = m * size) (h1 : OneCells news)
    (h63 : n + m ≤ maxLen) (hbytes : (n + m) * bytes ≤ 140737488355328)
    (h : ∀ v' w', Heap W (OwnT e size v' (n + m) (xs ++ news) :: l) w' → wpList Tryd.prog ops Q rest (a.put o.dst v') w') : wpList Tryd.prog ops Q (o :: rest) a w := by
  have hown := H.ok _ List.mem_cons_self
  obtain ⟨hxl, ⟨rfl, rfl⟩ | ⟨g, off', cap, cur, rfl, _, hg, hnc, hcm, hsz, htk⟩⟩ := hown
  · have hx0 : xs = [] := List.eq_nil_of_length_eq_zero (by simpa using hxl)
    subst hx0
    have H2 : Heap W (RowT e size (.slice none 0 0) 0 [] :: l) w := H.tail.nilRow e size
    exact wpl_appendH T hgd ho hs hx H2 hrd hl h1 h63 hbytes fun v' w' H' => h v' w' H'.slide
  · by_cases hroom : n + m ≤ cap
    · obtain ⟨i, hi, hz, hsi, hbi⟩ := T.inf
      subst hsi
      have hms : (n + m) * i.size ≤ cap * i.size := Nat.mul_le_mul_right _ hroom
      rw [Nat.add_mul] at hms
      have hfit : off' + n * i.size + news.length ≤ cur.size := by omega
      have hr := run_append_roomO (P := Tryd.prog) w t o.type e i T.und hi g off' n cap cur hg ⟨b, off, none⟩ m c news hl hrd.addr h1 hroom hfit
      refine wpList_plain hgd fun K hK => ?_
      unfold Oper.wp execOp
      simp only [ho, resolve, invoke, builtin, Sem.run_bind, Sem.run_pure, Result.andThen_ok, List.map_toArray, List.map_cons, List.map_nil, hs, hx, hr]
      have hxs : xs.length = n * i.size := hxl
      refine hK _ _ (h _ _ (H.head ⟨rfl, rfl, rfl, by simp, fun k _ hk => setRow_other w g k _ (fun e => hk (by show some k = some g; rw [e]))⟩ ⟨by rw [List.length_append, hxs, hl, Nat.add_mul], .inr ⟨g, off', cap, _, rfl, Nat.zero_le _, setRow_heap w g cur _ e _ hg, hroom, hcm, ?_, ?_⟩⟩ (.inl rfl)))
      · simp only [List.size_toArray, List.length_append, List.length_take, List.length_drop, Array.length_toList]
        omega
      · have hA : (cur.toList.take (off' + n * i.size)).length = off' + n * i.size := by simp; omega
        simp only [List.append_assoc]
        rw [List.drop_append_of_le_length (by rw [hA]; omega), List.drop_take, Nat.add_sub_cancel_left, htk, ← List.append_assoc, show (n + m) * i.size = (xs ++ news).length by rw [List.length_append, hxs, hl, Nat.add_mul]]
        exact List.take_left
    · obtain ⟨i, hi, hz, hsi, hbi⟩ := T.inf
      subst hsi
      subst hbi
      have hown' : Own w 0 e i.size (.slice (some ⟨g, off', none⟩) n cap) n xs := ⟨hxl, .inr ⟨g, off', cap, cur, rfl, Nat.zero_le _, hg, hnc, hcm, hsz, htk⟩⟩
      have hrd0 : Rd w (some ⟨g, off', none⟩) xs := by
        obtain ⟨ao, c', he, hr, _⟩ := Own.rd hown'
        simp only [Value.slice.injEq, true_and] at he
        obtain ⟨rfl, _⟩ := he
        exact hr
      have hr := run_append_grow (P := Tryd.prog) w t o.type e i z T.und hi hz ⟨g, off', none⟩ n cap xs hxl hrd0.addr ⟨b, off, none⟩ m c news hl hrd.addr (by omega) (by unfold maxLen at h63; omega) (growslice_fits (by omega) hbytes)
      have hge := grownCap_ge w (n + m) cap e
      have hcm2 : grownCap w (n + m) cap e ≤ maxLen := grownCap_le_maxLen w (n + m) cap e h63
      refine wpList_plain hgd fun K hK => ?_
      unfold Oper.wp execOp
      simp only [ho, resolve, invoke, builtin, Sem.run_bind, Sem.run_pure, Result.andThen_ok, List.map_toArray, List.map_cons, List.map_nil, hs, hx, hr]
      refine hK _ _ (h _ _ (H.head ⟨rfl, rfl, rfl, by simp, fun k hk _ => Below.heap_alloc w.drew _ k hk⟩ ⟨by rw [List.length_append, hxl, hl, Nat.add_mul], .inr ⟨w.heap.size, 0, _, _, rfl, Nat.zero_le _, heap_alloc_new w.drew _, hge, hcm2, ?_, ?_⟩⟩ (.inr fun k hk => ?_)))
      · simp only [Array.size_append, List.size_toArray, size_zeroCells, T.zc, hxl, hl, ← Nat.add_mul]
        rw [Nat.zero_add]
        have : n + m + (grownCap w (n + m) cap e - (n + m)) = grownCap w (n + m) cap e := by omega
        rw [this]
        exact Nat.le_refl _
      · simp only [Array.toList_append, List.append_assoc, List.drop_zero]
        rw [← List.append_assoc, show (n + m) * i.size = (xs ++ news).length by rw [List.length_append, hxl, hl, Nat.add_mul]]
        exact List.take_left
      · have hk' : some w.heap.size = some k := hk
        cases hk'
        exact ⟨Nat.le_refl _, by simp⟩
theorem wpl_loadCell {T : TypeId} {dst : Option Tmp} {ty : TypeId} {pos : String} {after : Array Edge} {guard : Option (Nat × Bool)} {x : Operand} {b off : Nat} (CT : CellTy T) (hw : Region.wanted ⟨dst, .load T x, ty, pos, after, guard⟩ (yielded ops a.tmps) = true) (hx : a.eval x = .pointer (some ⟨b, off, none⟩))
    {v : Value} (hc : w.cell? ⟨b, off, none⟩ = some v) (h : wpList Tryd.prog ops Q rest (a.put dst v) w) : wpList Tryd.prog ops Q (⟨dst, .load T x, ty, pos, after, guard⟩ :: rest) a w := by
  simp only [World.cell?, if_true] at hc
  cases hb : w.heap[b]? with
  | none => rw [hb] at hc; cases hc
  | some o =>
    rw [hb] at hc
    cases o <;> first | (cases hc; done) | skip
    rename_i cs t f
    exact wpl_loadC CT hw hx hb hc h
theorem wpl_cut1 {t e size bytes : Nat} {z : Value} (T : SlTy Tryd.prog t e size bytes z) {dst : Option Tmp} {ty : TypeId} {pos : String} {after : Array Edge} {guard : Option (Nat × Bool)} {x : Operand} (hw : Region.wanted ⟨dst, .slice t x (some (.const (.int .i64 1))) none none, ty, pos, after, guard⟩ (yielded ops a.tmps) = true)
    {ao : Option Addr} {n c : Nat} (hx : a.eval x = .slice ao n c) (hn : 1 ≤ n) (h : wpList Tryd.prog ops Q rest (a.put dst (.slice (cutA ao c 1 size) (n - 1) (c - 1))) w) : wpList Tryd.prog ops Q (⟨dst, .slice t x (some (.const (.int .i64 1))) none none, ty, pos, after, guard⟩ :: rest) a w := by
  refine wpl_pure hw _ (fun w => ?_) h
  have hr : (Instr.slice t (.slice ao n c) (some (.int .i64 1)) none none).run Tryd.prog w = .ok (.slice (cutA ao c 1 size) (n - 1) (c - 1)) w := run_cutFrom (P := Tryd.prog) T ao n c 1 .i64 hn w
  have hs : (Instr.sliceAt t (.slice ao n c) (some (.int .i64 1)) none none).run Tryd.prog w = .ok (.slice (cutA ao c 1 size) (n - 1) (c - 1)) w := by
    unfold Instr.sliceAt
    rw [Sem.run_bind, run_underlying T.und]
    simp only [Result.andThen_ok]
    exact hr
  have e : (some (Operand.const (.int .i64 1))).map a.eval = some (.int .i64 1) := rfl
  unfold execOp
  simp only [hx, e, Option.map_none, Sem.run_bind, hs, Result.andThen_ok, Sem.run_pure]
/-- A block as a row that is full. -/
theorem Heap.celOwn {W w : World} {l : List Thing} {g e size n : Nat} {c : Array Value} (H : Heap W (Cel g c e :: l) w) (hc : c.size = n * size) (hn : n ≤ maxLen) : Heap W (OwnT e size (.slice (some ⟨g, 0, none⟩) n n) n c.toList :: l) w :=
  H.head (World.grownBy.refl _ _) ⟨by simpa using hc, .inr ⟨g, 0, n, c, rfl, Nat.zero_le _, H.blk List.mem_cons_self, Nat.le_refl _, hn, by omega, by rw [List.drop_zero, List.take_of_length_le (by simp [hc])]⟩⟩ (.inl rfl)
/-- The head of a block as a row. -/
theorem Heap.celOwnP {W w : World} {l : List Thing} {g e size n m : Nat} {c : Array Value} (H : Heap W (Cel g c e :: l) w) (hc : m * size ≤ c.size) (hn : n ≤ m) (hm : m ≤ maxLen) : Heap W (OwnT e size (.slice (some ⟨g, 0, none⟩) n m) n (c.toList.take (n * size)) :: l) w := by
  have h2 : n * size ≤ m * size := Nat.mul_le_mul_right _ hn
  exact H.head (World.grownBy.refl _ _) ⟨by simp; omega, .inr ⟨g, 0, m, c, rfl, Nat.zero_le _, H.blk List.mem_cons_self, hn, hm, by omega, by rw [List.drop_zero]⟩⟩ (.inl rfl)
/-- make([]T, n, m). -/
theorem wpl_makeC {t e size bytes : Nat} {z : Value} (T : SlTy Tryd.prog t e size bytes z) {dst : Option Tmp} {ty : TypeId} {pos : String} {after : Array Edge} {guard : Option (Nat × Bool)} {x y : Operand} (hw : Region.wanted ⟨dst, .makeSlice t x y, ty, pos, after, guard⟩ (yielded ops a.tmps) = true)
    {kl kc : IntKind} {L C : Int} (n m : Nat) (hx : a.eval x = .int kl L) (hy : a.eval y = .int kc C) (hL : L = (n : Int)) (hC : C = (m : Int)) (hnm : n ≤ m) (hm : m ≤ 65536) (hb : bytes * m ≤ 281474976710656)
    (H : Heap W l w) (h : ∀ p w', Heap W (Cel p (madeCells z.cells (m * size)) e :: l) w' → wpList Tryd.prog ops Q rest (a.put dst (.slice (some ⟨p, 0, none⟩) n m)) w') : wpList Tryd.prog ops Q (⟨dst, .makeSlice t x y, ty, pos, after, guard⟩ :: rest) a w := by
  subst hL hC
  obtain ⟨i, hi, hz, hsi, hbi⟩ := T.inf
  subst hsi hbi
  have hb2 : (i.bytes : Int) * (m : Int) ≤ 281474976710656 := by rw [← Int.natCast_mul]; omega
  have hr := run_make (P := Tryd.prog) w t e i z T.und hi hz kl kc (n : Int) (m : Int) (by omega) (by omega) hb2 (by omega)
  simp only [Int.toNat_natCast] at hr
  refine BigFrame.wpList_want hw fun K hK => ?_
  unfold Oper.wp execOp
  simp only [hx, hy, Sem.run_bind, hr, Result.andThen_ok, Sem.run_pure]
  exact hK _ _ (h _ _ (H.alloc _ _))
end
end Go.Proofs.YtlinhcbjljcgbaaDoor

/- Rows of one's own, written in place; rows with all their room. -/
namespace Go.Proofs.YtlinhcbjljcgbaaDoor
open Go.RowKit
set_option linter.unusedSimpArgs false
set_option linter.unusedVariables false
/-- A row with all its room. -/
def FullT (e size : Nat) (a : Option Addr) (n c : Nat) (P : List Value → Prop) : Thing :=
  ⟨(Value.slice a n c).ownBlock, fun w => n ≤ c ∧ c ≤ maxLen ∧ ∃ xs, Own w 0 e size (.slice a c c) c xs ∧ P xs, fun w w' h ⟨hn, hm, xs, ho, hp⟩ => ⟨hn, hm, xs, ho.same fun k hk => h k (by cases a <;> exact hk), hp⟩⟩
theorem Own.full {w : World} {e size n c : Nat} {a : Option Addr} {xs : List Value} (h : Own w 0 e size (.slice a n c) n xs) : n ≤ c ∧ c ≤ maxLen ∧ ∃ ys, Own w 0 e size (.slice a c c) c ys := by
  obtain ⟨hl, ⟨hv, hn⟩ | ⟨g, off, cap, cur, hv, hb, hg, hnc, hcm, hs, ht⟩⟩ := h
  · simp only [Value.slice.injEq] at hv
    obtain ⟨rfl, rfl, rfl⟩ := hv
    exact ⟨Nat.le_refl _, by unfold maxLen; omega, [], by simp, .inl ⟨rfl, rfl⟩⟩
  · simp only [Value.slice.injEq, true_and] at hv
    obtain ⟨rfl, rfl⟩ := hv
    refine ⟨hnc, hcm, (cur.toList.drop off).take (c * size), ?_, .inr ⟨g, off, c, cur, rfl, hb, hg, Nat.le_refl _, hcm, hs, rfl⟩⟩
    simp
    omega
section
variable {W w : World} {l : List Thing} {e size n c : Nat} {a : Option Addr} {xs : List Value} {P Q : List Value → Prop}
theorem Heap.toFull (H : Heap W (OwnT e size (.slice a n c) n xs :: l) w) : Heap W (FullT e size a n c (fun _ => True) :: l) w := by
  obtain ⟨h1, h2, ys, h3⟩ := Own.full (H.ok _ List.mem_cons_self)
  exact H.head (World.grownBy.refl _ _) ⟨h1, h2, ys, h3, trivial⟩ (.inl rfl)
theorem Heap.openFull (H : Heap W (FullT e size a n c P :: l) w) : ∃ xs, P xs ∧ n ≤ c ∧ c ≤ maxLen ∧ xs.length = c * size ∧ (a = none → c = 0) ∧ Heap W (OwnT e size (.slice a c c) c xs :: l) w := by
  obtain ⟨h1, h2, xs, h3, h4⟩ := H.ok _ List.mem_cons_self
  refine ⟨xs, h4, h1, h2, h3.1, fun e => ?_, H.head (World.grownBy.refl _ _) h3 (.inl (by cases a <;> rfl))⟩
  subst e
  obtain ⟨_, ⟨hv, _⟩ | ⟨g, off, cap, cur, hv, _⟩⟩ := h3
  · simp only [Value.slice.injEq] at hv; exact hv.2.2
  · simp at hv
theorem Heap.shutFull (H : Heap W (OwnT e size (.slice a c c) c xs :: l) w) (hn : n ≤ c) (hc : c ≤ maxLen) (hP : P xs) : Heap W (FullT e size a n c P :: l) w :=
  H.head (World.grownBy.refl _ _) ⟨hn, hc, xs, H.ok _ List.mem_cons_self, hP⟩ (.inl (by cases a <;> rfl))
theorem Heap.clipOwn (H : Heap W (OwnT e size (.slice a n c) n xs :: l) w) : Heap W (OwnT e size (.slice a n n) n xs :: l) w :=
  H.head (World.grownBy.refl _ _) (Own.clip (H.ok _ List.mem_cons_self)) (.inl (by cases a <;> rfl))
theorem OwnT.room (h : (OwnT e size (.slice a n c) n xs).ok w) : n ≤ c ∧ c ≤ maxLen := ⟨(Own.full h).1, (Own.full h).2.1⟩
theorem OwnT.len {v : Value} (h : (OwnT e size v n xs).ok w) : xs.length = n * size := h.1
end
theorem Own.put {w : World} {g off n c e size : Nat} {xs : List Value} (h : Own w 0 e size (.slice (some ⟨g, off, none⟩) n c) n xs) {cur : Array Value} {t : TypeId} (hb : blk w g = some (.cells cur t (0, 0))) (j : Nat) (c2 : Array Value) (hj : j + c2.size ≤ xs.length) :
    Own (setBlk w g (splice cur (off + j) c2)) 0 e size (.slice (some ⟨g, off, none⟩) n c) n (xs.take j ++ c2.toList ++ xs.drop (j + c2.size)) := by
  obtain ⟨hl, ⟨hv, _⟩ | ⟨g', off', cap, cur', hv, hb', hg, hnc, hcm, hs, ht⟩⟩ := h
  · cases hv
  · simp only [Value.slice.injEq, Option.some.injEq, Addr.mk.injEq, true_and] at hv
    obtain ⟨⟨rfl, rfl, _⟩, rfl⟩ := hv
    have hb2 : w.heap[g]? = some (.cells cur t (0, 0)) := hb
    rw [hg] at hb2
    cases hb2
    have hnm : n * size ≤ c * size := Nat.mul_le_mul_right _ hnc
    refine ⟨by simp; omega, .inr ⟨g, off, c, splice cur (off + j) c2, rfl, hb', setBlk_same w g _ cur _ _ hg, hnc, hcm, ?_, ?_⟩⟩
    · unfold splice
      simp
      omega
    · unfold splice
      rw [List.toList_toArray]
      apply List.ext_getElem?
      intro i
      have hxi : ∀ i, i < n * size → xs[i]? = cur.toList[off + i]? := fun i hi => by
        rw [← ht, List.getElem?_take, if_pos hi, List.getElem?_drop]
      have hsz : cur.toList.length = cur.size := Array.length_toList
      rw [List.getElem?_take]
      by_cases hi : i < n * size
      · rw [if_pos hi, List.getElem?_drop]
        have hA : (cur.toList.take (off + j)).length = off + j := by simp; omega
        have hB : (xs.take j).length = j := by simp; omega
        by_cases h1 : i < j
        · rw [List.append_assoc, List.getElem?_append_left (by rw [hA]; omega), List.append_assoc, List.getElem?_append_left (by rw [hB]; omega), List.getElem?_take, if_pos (by omega), List.getElem?_take, if_pos h1, hxi i hi]
        · rw [List.append_assoc, List.append_assoc, List.getElem?_append_right (l₁ := cur.toList.take (off + j)) (by rw [hA]; omega), List.getElem?_append_right (l₁ := xs.take j) (by rw [hB]; omega), hA, hB, show off + i - (off + j) = i - j by omega]
          by_cases h2 : i - j < c2.size
          · rw [List.getElem?_append_left (by simpa using h2), List.getElem?_append_left (by simpa using h2)]
          · rw [List.getElem?_append_right (by simp; omega), List.getElem?_append_right (by simp; omega), List.getElem?_drop, List.getElem?_drop, Array.length_toList, show off + j + c2.size + (i - j - c2.size) = off + i by omega, show j + c2.size + (i - j - c2.size) = i by omega, hxi i hi]
      · rw [if_neg hi, List.getElem?_eq_none (by simp; omega)]
theorem splice_one {cur : Array Value} {k : Nat} {v : Value} (h : k < cur.size) : splice cur k #[v] = cur.setIfInBounds k v := by
  unfold splice
  apply Array.ext_getElem?
  intro i
  rw [Array.getElem?_setIfInBounds, List.getElem?_toArray]
  have hA : (cur.toList.take k).length = k := by simp; omega
  by_cases h1 : i < k
  · rw [List.append_assoc, List.getElem?_append_left (by rw [hA]; omega), List.getElem?_take, if_pos h1, if_neg (by omega)]
    simp
  · rw [List.append_assoc, List.getElem?_append_right (by rw [hA]; omega), hA]
    by_cases h2 : i = k
    · subst h2; simp [h]
    · rw [if_neg (by omega), List.getElem?_append_right (by simp; omega), List.getElem?_drop]
      simp
      congr 1
      omega
theorem list_put_one {xs : List Value} {j : Nat} {v : Value} (h : j < xs.length) : xs.take j ++ [v] ++ xs.drop (j + 1) = xs.set j v := by
  rw [List.append_assoc, List.set_eq_take_append_cons_drop, if_pos h]; rfl
theorem Own.blkOf {w : World} {g off n c e size : Nat} {xs : List Value} (h : Own w 0 e size (.slice (some ⟨g, off, none⟩) n c) n xs) : ∃ cur, blk w g = some (.cells cur e (0, 0)) ∧ off + xs.length ≤ cur.size := by
  obtain ⟨hl, ⟨hv, _⟩ | ⟨g', off', cap, cur', hv, hb', hg, hnc, hcm, hs, ht⟩⟩ := h
  · cases hv
  · simp only [Value.slice.injEq, Option.some.injEq, Addr.mk.injEq, true_and] at hv
    obtain ⟨⟨rfl, rfl, _⟩, rfl⟩ := hv
    have hnm : n * size ≤ c * size := Nat.mul_le_mul_right _ hnc
    exact ⟨cur', hg, by omega⟩
theorem putOwnH {W w : World} {l l' : List Thing} {g off n c e size : Nat} {xs ys : List Value} (H : Heap W l w) {cur c2 : Array Value} (hb : blk w g = some (.cells cur e (0, 0))) {j : Nat} (hj : j + c2.size ≤ xs.length) (hy : xs.take j ++ c2.toList ++ xs.drop (j + c2.size) = ys)
    (r : Repl l (OwnT e size (.slice (some ⟨g, off, none⟩) n c) n xs) (OwnT e size (.slice (some ⟨g, off, none⟩) n c) n ys) l') : Heap W l' (setBlk w g (splice cur (off + j) c2)) :=
  H.upd r grown_setBlk (by subst hy; exact Own.put (H.ok _ r.mem) hb j c2 hj) (.inl rfl)
section
variable {ops : Array Oper} {rest : List Oper} {o : Oper} {a : Act} {w W : World} {l l' : List Thing} {Q : Exit → Act → World → Prop}
/-- s[i] = v, of one cell. -/
theorem wpl_storeOwnC {T e : TypeId} {dst : Option Tmp} {ty : TypeId} {pos : String} {after : Array Edge} {guard : Option (Nat × Bool)} {x y : Operand} {g ad off n c size j : Nat} {v : Value} {xs : List Value} (CT : CellTy T) (hw : Region.wanted ⟨dst, .store T x y, ty, pos, after, guard⟩ (yielded ops a.tmps) = true) (hx : a.eval x = .pointer (some ⟨g, ad, none⟩)) (hy : a.eval y = v) (hc : v.cells = #[v] ∧ v.oneCell' = true)
    (H : Heap W l w) (m : OwnT e size (.slice (some ⟨g, off, none⟩) n c) n xs ∈ l) (hk : ad = off + j) (hj : j < xs.length) (r : Repl l (OwnT e size (.slice (some ⟨g, off, none⟩) n c) n xs) (OwnT e size (.slice (some ⟨g, off, none⟩) n c) n (xs.set j v)) l')
    (h : ∀ w', Heap W l' w' → wpList Tryd.prog ops Q rest (a.put dst undef) w') : wpList Tryd.prog ops Q (⟨dst, .store T x y, ty, pos, after, guard⟩ :: rest) a w := by
  subst hk
  obtain ⟨cur, hb, hs⟩ := Own.blkOf (H.ok _ m)
  have h2 := putOwnH H (j := j) (c2 := #[v]) hb (by simp; omega) (list_put_one hj) r
  rw [splice_one (by omega)] at h2
  exact wpl_storeC CT hw hx hy hc hb (by omega) rfl ⟨⟨_, hb⟩, rfl⟩ (h _ h2)
/-- s[i] = v, of a row. -/
theorem wpl_storeOwnR {T N e : Nat} {z : Array Value} {dst : Option Tmp} {ty : TypeId} {pos : String} {after : Array Edge} {guard : Option (Nat × Bool)} {x y : Operand} {g ad off n c size j : Nat} {c2 : Array Value} {xs ys : List Value} (RT : RowTy T N z) (hw : Region.wanted ⟨dst, .store T x y, ty, pos, after, guard⟩ (yielded ops a.tmps) = true) (hx : a.eval x = .pointer (some ⟨g, ad, none⟩)) (hy : a.eval y = .agg c2) (hc : Cells N c2)
    (H : Heap W l w) (m : OwnT e size (.slice (some ⟨g, off, none⟩) n c) n xs ∈ l) (hk : ad = off + j) (hj : j + N ≤ xs.length) (hys : xs.take j ++ c2.toList ++ xs.drop (j + N) = ys) (r : Repl l (OwnT e size (.slice (some ⟨g, off, none⟩) n c) n xs) (OwnT e size (.slice (some ⟨g, off, none⟩) n c) n ys) l')
    (h : ∀ w', Heap W l' w' → wpList Tryd.prog ops Q rest (a.put dst undef) w') : wpList Tryd.prog ops Q (⟨dst, .store T x y, ty, pos, after, guard⟩ :: rest) a w := by
  subst hk
  obtain ⟨cur, hb, hs⟩ := Own.blkOf (H.ok _ m)
  have hN := hc.1
  have h2 := putOwnH H (j := j) (c2 := c2) hb (by omega) (by rw [hN]; exact hys) r
  exact wpl_storeR RT hw hx hy hc hb (by omega) rfl ⟨⟨_, hb⟩, rfl⟩ (h _ h2)
theorem wpQ_loadRdR {T n : Nat} {z : Array Value} {dst : Option Tmp} {ty : TypeId} {pos : String} {after : Array Edge} {guard : Option (Nat × Bool)} {x : Operand} {b off : Nat} {K : Act → Prop} {H : Heap W l w} (RT : RowTy T n z) (hw : Region.wanted ⟨dst, .load T x, ty, pos, after, guard⟩ (yielded ops a.tmps) = true) (hx : a.eval x = .pointer (some ⟨b, off, none⟩))
    {o k : Nat} {xs : List Value} {c1 : Array Value} (R : ∀ w', Heap W l w' → Rd w' (some ⟨b, o, none⟩) xs) (hk : off = o + k) (hn : k + n ≤ xs.length) (h0 : 0 < n) (hv : ((xs.drop k).take n).toArray = c1)
    (h : wpQuiet Tryd.prog ops (fun w' => ∃ d, w' = H.any d) K rest (a.put dst (.agg c1))) : wpQuiet Tryd.prog ops (fun w' => ∃ d, w' = H.any d) K (⟨dst, .load T x, ty, pos, after, guard⟩ :: rest) a := by
  subst hk
  refine BigFrame.wpQuiet_want hw fun K hK => ⟨_, ?_, hK _ h⟩
  rintro _ ⟨d, rfl⟩
  obtain ⟨cs, t, f, hb, hs, he⟩ := rd_block (R _ (H.any_heap d)) hn h0
  unfold Oper.quietAt execOp
  simp only [hx, Sem.run_bind, run_loadR RT hb hs, he, hv]
  exact ⟨rfl, rfl⟩
theorem wpQ_loadAt {T : TypeId} {dst : Option Tmp} {ty : TypeId} {pos : String} {after : Array Edge} {guard : Option (Nat × Bool)} {x : Operand} {b off : Nat} {K : Act → Prop} {H : Heap W l w} (CT : CellTy T) (hw : Region.wanted ⟨dst, .load T x, ty, pos, after, guard⟩ (yielded ops a.tmps) = true) (hx : a.eval x = .pointer (some ⟨b, off, none⟩))
    {v : Value} (hc : ∀ w', Heap W l w' → w'.cell? ⟨b, off, none⟩ = some v)
    (h : wpQuiet Tryd.prog ops (fun w' => ∃ d, w' = H.any d) K rest (a.put dst v)) : wpQuiet Tryd.prog ops (fun w' => ∃ d, w' = H.any d) K (⟨dst, .load T x, ty, pos, after, guard⟩ :: rest) a := by
  refine BigFrame.wpQuiet_want hw fun K hK => ⟨v, ?_, hK _ h⟩
  rintro _ ⟨d, rfl⟩
  have hv := hc _ (H.any_heap d)
  simp only [World.cell?, if_true] at hv
  cases hb : (H.any d).heap[b]? with
  | none => rw [hb] at hv; cases hv
  | some o =>
    rw [hb] at hv
    cases o <;> first | (cases hv; done) | skip
    rename_i cs t f
    unfold Oper.quietAt execOp
    simp only [hx, Sem.run_bind, run_loadC CT hb hv]
    exact ⟨rfl, rfl⟩
end
end Go.Proofs.YtlinhcbjljcgbaaDoor

/- A book of pages, over a memory of things: Apart answers true, where each page's list lies apart. -/
namespace Go.Proofs.YtlinhcbjljcgbaaDoor
open Go.RowKit
set_option linter.unusedSimpArgs false
set_option linter.unusedVariables false
/-- A page: what it is, and its list at three times. -/
structure PageT where
  ty : TypeId
  d : Value
  t0 : Thing
  t1 : Thing
  t2 : Thing
def PageT.v (p : PageT) : Value := .iface p.ty p.d
/-- A method of such a value: one that takes the value itself. -/
structure MethIs (ty : TypeId) (d : Value) (name : String) (f : FuncId) : Prop where
  meth : ∀ fuel w, (method (fuel + 1) ty d name).run Tryd.prog w = .ok (f, d) w
  enter : ∀ args w, (callFunc f args).run Tryd.prog w = .ok (.enter f args) w
structure PageOk (p : PageT) : Prop where
  write : ∃ f, MethIs p.ty p.d "countinghouse/countinghouselaw01.write" f ∧ ∀ (W : World) (l : List Thing) (w : World), Heap W (p.t0 :: l) w → Calls Tryd.prog f #[p.d] w fun e w' => e = .returned (.tuple #[]) ∧ Heap W (p.t1 :: l) w'
  behind : ∃ f, MethIs p.ty p.d "countinghouse/countinghouselaw01.writeBehind" f ∧ ∀ (W : World) (l : List Thing) (w : World), Heap W (p.t1 :: l) w → Calls Tryd.prog f #[p.d] w fun e w' => e = .returned (.tuple #[]) ∧ Heap W (p.t2 :: l) w'
  stands : ∃ f, MethIs p.ty p.d "countinghouse/countinghouselaw01.stands" f ∧ ∀ (W : World) (l : List Thing) (w : World), Heap W (p.t2 :: l) w → Calls Tryd.prog f #[p.d] w fun e w' => e = .returned (.bool true) ∧ Heap W (p.t2 :: l) w'
theorem cell_pages : CellTy 30 := ⟨⟨_, Tryd.underlying30, rfl⟩, by kernel_rfl⟩
theorem cell_page : CellTy 63 := ⟨⟨_, Tryd.underlying63, rfl⟩, by kernel_rfl⟩
/-- A book. -/
abbrev bookC (v : Value) : Array Value := #[v]
theorem bookC_g (v : Value) : (bookC v)[0]? = some v := rfl
theorem row_book : RowTy 32 1 (bookC (.slice none 0 0)) := ⟨⟨_, Tryd.underlying32, rfl⟩, by kernel_rfl, by kernel_rfl⟩
theorem bookC_cells : Cells 1 (bookC (.slice none 0 0)) := ⟨rfl, by simp [Value.oneCell']⟩
theorem bookC_sz (v : Value) : (bookC v).size = 1 := rfl
theorem bookC_splice (v : Value) : splice (bookC v) 0 (bookC (.slice none 0 0)) = bookC (.slice none 0 0) := splice_all rfl
abbrev BkT (kb : Nat) (v : Value) : Thing := Cel kb (bookC v) 32
abbrev PgsT (v : Value) (n : Nat) (vs : List Value) : Thing := RowT 63 1 v n vs
theorem RowT.form0 {w : World} {e size n : Nat} {v : Value} {xs : List Value} (h : (RowT e size v n xs).ok w) : ∃ a c, v = .slice a n c ∧ n ≤ c ∧ c ≤ maxLen := by
  obtain ⟨a, c, e, _, h1, h2, _⟩ := (Own.ofRow h).rd
  exact ⟨a, c, e, h1, h2⟩
theorem Heap.rowRd {W w : World} {l : List Thing} {e size n c : Nat} {a : Option Addr} {xs : List Value} (H : Heap W l w) (m : RowT e size (.slice a n c) n xs ∈ l) : Rd w a xs := by
  obtain ⟨a', c', he, hr, _⟩ := (Own.ofRow (H.ok _ m)).rd
  simp only [Value.slice.injEq, true_and] at he
  obtain ⟨rfl, _⟩ := he
  exact hr
structure ApLoop (W : World) (l : List Thing) (kb : Nat) (v : Value) (vs : List Value) (n : Nat) (ts : Nat → List Thing) (i : Value) (wr : World) : Prop where
  out : ∃ k, i = .int .i64 ((k : Nat) : Int) ∧ k ≤ n ∧ Heap W (BkT kb v :: PgsT v n vs :: (ts k ++ l)) wr
theorem mid_perm {x : Thing} {A B l : List Thing} {b p : Thing} : (b :: p :: (A ++ x :: B ++ l)).Perm (x :: b :: p :: (A ++ B ++ l)) := by
  have h : (A ++ x :: B ++ l).Perm (x :: (A ++ B ++ l)) := by
    rw [List.append_assoc, List.append_assoc, List.cons_append]; exact List.perm_middle
  exact (List.Perm.cons _ (List.Perm.cons _ h)).trans ((List.Perm.cons _ (.swap _ _ _)).trans (.swap _ _ _))
section
variable {W w : World} {l : List Thing}
set_option maxRecDepth 100000
set_option maxHeartbeats 4000000
theorem apart_H (kb : Nat) (a : Option Addr) (n c : Nat) (ps : List PageT) (hn : ps.length = n) (h120 : n ≤ 120) (hok : ∀ p ∈ ps, PageOk p) (H : Heap W (BkT kb (.slice a n c) :: PgsT (.slice a n c) n (ps.map PageT.v) :: (ps.map PageT.t0 ++ l)) w) :
    Calls Tryd.prog 22 #[.pointer (some ⟨kb, 0, none⟩)] w fun e w' => e = .returned (.bool true) ∧ Heap W (BkT kb (.slice a n c) :: PgsT (.slice a n c) n (ps.map PageT.v) :: (ps.map PageT.t2 ++ l)) w' := by
  have HN := Lib.hid hn
  have HO := Lib.hid hok
  clear hn hok
  go_enter Tryd.func22, Tryd.ntmps22
  go_wp2_with (first | go_skip | ((with_reducible show wpList _ _ _ (_ :: _) _ _); (with_reducible apply wpl_loadCH); (· exact cell_pages); (· rfl); (· rfl); (· exact H); (· (repeat (first | (with_reducible exact List.mem_cons_self) | with_reducible apply List.mem_cons_of_mem))); (· exact bookC_g _); (simp only [Act.put, List.setIfInBounds_toArray, List.set_cons_zero, List.set_cons_succ])))
  have H0 := H
  clear H
  go_loopw [3] (fun i wr => ApLoop W l kb (.slice a n c) (ps.map PageT.v) n (fun k => (ps.take k).map PageT.t1 ++ (ps.drop k).map PageT.t0) i wr) (fun i _ => n - (intOf i).toNat)
  case atStart => exact ⟨0, rfl, by omega, by simpa using H0⟩
  case round =>
    obtain ⟨k, rfl, hk, H'⟩ := hrel.out
    clear H0 hrel
    have H := H'
    clear H'
    by_cases hlt : k < n
    · have hkp : k < ps.length := by rw [HN.out]; exact hlt
      have hpo := HO.out ps[k] (List.getElem_mem hkp)
      have hv : ((ps.map PageT.v))[k]? = some (ps[k].v) := by rw [List.getElem?_map, List.getElem?_eq_getElem hkp]; rfl
      have e1 : ps.drop k = ps[k] :: ps.drop (k + 1) := List.drop_eq_getElem_cons hkp
      have e2 : ps.take (k + 1) = ps.take k ++ [ps[k]] := by rw [List.take_add_one, List.getElem?_eq_getElem hkp]; rfl
      have HE := Lib.hid (And.intro e1 e2)
      clear e1 e2
      have hrd := H.rowRd (List.mem_cons_of_mem _ List.mem_cons_self)
      obtain ⟨pa, po, rfl, hpc⟩ := hrd k (by rw [List.length_map]; exact hkp)
      rw [show (ps.map PageT.v)[k]'(by rw [List.length_map]; exact hkp) = ps[k].v from List.getElem_map ..] at hpc
      clear hrd hv
      generalize ps[k] = p at *
      obtain ⟨ty, d, t0, t1, t2⟩ := p
      obtain ⟨f, hm, hcall⟩ := hpo.write
      have hm1 := hm.meth
      have hm2 := hm.enter
      simp only [PageT.v] at hpc hm1
      clear hm
      go_wp2_with (first | go_skip | ((with_reducible show wpList _ _ _ (_ :: _) _ _); (with_reducible apply wpl_loadCH); (· exact cell_pages); (· rfl); (· rfl); (· exact H); (· (repeat (first | (with_reducible exact List.mem_cons_self) | with_reducible apply List.mem_cons_of_mem))); (· exact bookC_g _); (simp only [Act.put, List.setIfInBounds_toArray, List.set_cons_zero, List.set_cons_succ])))
      refine (hcall W _ _ (H.perm (by rw [HE.out.1, List.map_cons]; exact mid_perm))).mono ?_
      clear H hcall hm1 hm2
      rintro e w1 ⟨rfl, H⟩
      go_wp2_with (go_skip)
      refine ⟨?_, ?measure⟩
      · refine ⟨⟨k + 1, by go_num, by omega, ?_⟩⟩
        rw [HE.out.2, List.map_append, List.map_cons, List.map_nil]
        have h2 := H.perm (mid_perm (A := (ps.take k).map PageT.t1) (B := (ps.drop (k + 1)).map PageT.t0) (l := l)).symm
        rwa [List.append_assoc (List.map PageT.t1 (List.take k ps)) [_] _]
      case measure => simp [intOf]; omega
    · obtain rfl : n = k := by omega
      rw [List.take_of_length_le (by rw [HN.out]; exact Nat.le_refl _), List.drop_of_length_le (by rw [HN.out]; exact Nat.le_refl _), List.map_nil, List.append_nil] at H
      go_wp2_with (first | go_skip | ((with_reducible show wpList _ _ _ (_ :: _) _ _); (with_reducible apply wpl_loadCH); (· exact cell_pages); (· rfl); (· rfl); (· exact H); (· (repeat (first | (with_reducible exact List.mem_cons_self) | with_reducible apply List.mem_cons_of_mem))); (· exact bookC_g _); (simp only [Act.put, List.setIfInBounds_toArray, List.set_cons_zero, List.set_cons_succ])))
      have H0 := H
      clear H
      go_loopw [4] (fun i wr => ApLoop W l kb (.slice a n c) (ps.map PageT.v) n (fun k => (ps.take k).map PageT.t2 ++ (ps.drop k).map PageT.t1) i wr) (fun i _ => n - (intOf i).toNat)
      case atStart => exact ⟨0, rfl, by omega, by simpa using H0⟩
      case round =>
        obtain ⟨k, rfl, hk, H'⟩ := hrel.out
        clear H0 hrel
        have H := H'
        clear H'
        by_cases hlt : k < n
        · have hkp : k < ps.length := by rw [HN.out]; exact hlt
          have hpo := HO.out ps[k] (List.getElem_mem hkp)
          have hv : ((ps.map PageT.v))[k]? = some (ps[k].v) := by rw [List.getElem?_map, List.getElem?_eq_getElem hkp]; rfl
          have e1 : ps.drop k = ps[k] :: ps.drop (k + 1) := List.drop_eq_getElem_cons hkp
          have e2 : ps.take (k + 1) = ps.take k ++ [ps[k]] := by rw [List.take_add_one, List.getElem?_eq_getElem hkp]; rfl
          have HE := Lib.hid (And.intro e1 e2)
          clear e1 e2
          have hrd := H.rowRd (List.mem_cons_of_mem _ List.mem_cons_self)
          obtain ⟨pa, po, rfl, hpc⟩ := hrd k (by rw [List.length_map]; exact hkp)
          rw [show (ps.map PageT.v)[k]'(by rw [List.length_map]; exact hkp) = ps[k].v from List.getElem_map ..] at hpc
          clear hrd hv
          generalize ps[k] = p at *
          obtain ⟨ty, d, t0, t1, t2⟩ := p
          obtain ⟨f, hm, hcall⟩ := hpo.behind
          have hm1 := hm.meth
          have hm2 := hm.enter
          simp only [PageT.v] at hpc hm1
          clear hm
          go_wp2_with (first | go_skip | ((with_reducible show wpList _ _ _ (_ :: _) _ _); (with_reducible apply wpl_loadCH); (· exact cell_pages); (· rfl); (· rfl); (· exact H); (· (repeat (first | (with_reducible exact List.mem_cons_self) | with_reducible apply List.mem_cons_of_mem))); (· exact bookC_g _); (simp only [Act.put, List.setIfInBounds_toArray, List.set_cons_zero, List.set_cons_succ])))
          refine (hcall W _ _ (H.perm (by rw [HE.out.1, List.map_cons]; exact mid_perm))).mono ?_
          clear H hcall hm1 hm2
          rintro e w1 ⟨rfl, H⟩
          go_wp2_with (go_skip)
          refine ⟨?_, ?measure⟩
          · refine ⟨⟨k + 1, by go_num, by omega, ?_⟩⟩
            rw [HE.out.2, List.map_append, List.map_cons, List.map_nil]
            have h2 := H.perm (mid_perm (A := (ps.take k).map PageT.t2) (B := (ps.drop (k + 1)).map PageT.t1) (l := l)).symm
            rwa [List.append_assoc (List.map PageT.t2 (List.take k ps)) [_] _]
          case measure => simp [intOf]; omega
        · obtain rfl : n = k := by omega
          rw [List.take_of_length_le (by rw [HN.out]; exact Nat.le_refl _), List.drop_of_length_le (by rw [HN.out]; exact Nat.le_refl _), List.map_nil, List.append_nil] at H
          go_wp2_with (first | go_skip | ((with_reducible show wpList _ _ _ (_ :: _) _ _); (with_reducible apply wpl_loadCH); (· exact cell_pages); (· rfl); (· rfl); (· exact H); (· (repeat (first | (with_reducible exact List.mem_cons_self) | with_reducible apply List.mem_cons_of_mem))); (· exact bookC_g _); (simp only [Act.put, List.setIfInBounds_toArray, List.set_cons_zero, List.set_cons_succ])))
          have H0 := H
          clear H
          go_loopw [5] (fun i wr => ApLoop W l kb (.slice a n c) (ps.map PageT.v) n (fun k => (ps.take k).map PageT.t2 ++ (ps.drop k).map PageT.t2) i wr) (fun i _ => n - (intOf i).toNat)
          case atStart => exact ⟨0, rfl, by omega, by simpa using H0⟩
          case round =>
            obtain ⟨k, rfl, hk, H'⟩ := hrel.out
            clear H0 hrel
            have H := H'
            clear H'
            by_cases hlt : k < n
            · have hkp : k < ps.length := by rw [HN.out]; exact hlt
              have hpo := HO.out ps[k] (List.getElem_mem hkp)
              have hv : ((ps.map PageT.v))[k]? = some (ps[k].v) := by rw [List.getElem?_map, List.getElem?_eq_getElem hkp]; rfl
              have e1 : ps.drop k = ps[k] :: ps.drop (k + 1) := List.drop_eq_getElem_cons hkp
              have e2 : ps.take (k + 1) = ps.take k ++ [ps[k]] := by rw [List.take_add_one, List.getElem?_eq_getElem hkp]; rfl
              have HE := Lib.hid (And.intro e1 e2)
              clear e1 e2
              have hrd := H.rowRd (List.mem_cons_of_mem _ List.mem_cons_self)
              obtain ⟨pa, po, rfl, hpc⟩ := hrd k (by rw [List.length_map]; exact hkp)
              rw [show (ps.map PageT.v)[k]'(by rw [List.length_map]; exact hkp) = ps[k].v from List.getElem_map ..] at hpc
              clear hrd hv
              generalize ps[k] = p at *
              obtain ⟨ty, d, t0, t1, t2⟩ := p
              obtain ⟨f, hm, hcall⟩ := hpo.stands
              have hm1 := hm.meth
              have hm2 := hm.enter
              simp only [PageT.v] at hpc hm1
              clear hm
              go_wp2_with (first | go_skip | ((with_reducible show wpList _ _ _ (_ :: _) _ _); (with_reducible apply wpl_loadCH); (· exact cell_pages); (· rfl); (· rfl); (· exact H); (· (repeat (first | (with_reducible exact List.mem_cons_self) | with_reducible apply List.mem_cons_of_mem))); (· exact bookC_g _); (simp only [Act.put, List.setIfInBounds_toArray, List.set_cons_zero, List.set_cons_succ])))
              refine (hcall W _ _ (H.perm (by rw [HE.out.1, List.map_cons]; exact mid_perm))).mono ?_
              clear H hcall hm1 hm2
              rintro e w1 ⟨rfl, H⟩
              go_wp2_with (go_skip)
              refine ⟨?_, ?measure⟩
              · refine ⟨⟨k + 1, by go_num, by omega, ?_⟩⟩
                rw [HE.out.2, List.map_append, List.map_cons, List.map_nil]
                have h2 := H.perm (mid_perm (A := (ps.take k).map PageT.t2) (B := (ps.drop (k + 1)).map PageT.t2) (l := l)).symm
                rwa [List.append_assoc (List.map PageT.t2 (List.take k ps)) [_] _]
              case measure => simp [intOf]; omega
            · obtain rfl : n = k := by omega
              rw [List.take_of_length_le (by rw [HN.out]; exact Nat.le_refl _), List.drop_of_length_le (by rw [HN.out]; exact Nat.le_refl _), List.map_nil, List.append_nil] at H
              go_wp2_with (first | go_skip | ((with_reducible show wpList _ _ _ (_ :: _) _ _); (with_reducible apply wpl_loadCH); (· exact cell_pages); (· rfl); (· rfl); (· exact H); (· (repeat (first | (with_reducible exact List.mem_cons_self) | with_reducible apply List.mem_cons_of_mem))); (· exact bookC_g _); (simp only [Act.put, List.setIfInBounds_toArray, List.set_cons_zero, List.set_cons_succ])))
              go_ret
              exact ⟨rfl, H⟩
end
/-- The book's pages. -/
theorem slPage : SlTy Tryd.prog 30 63 1 16 .nilIface := slTy_mk Tryd.underlying30 (by kernel_rfl) rfl (by decide)
theorem bs_page : Tryd.prog.underlying 30 = some (.slice 63) ∧ (Tryd.prog.info? 63).map (fun i => (i.size, i.zero)) = some (1, some .nilIface) := ⟨Tryd.underlying30, by kernel_rfl⟩
structure BkPost (W : World) (l : List Thing) (kb : Nat) (vs : List Value) (n : Nat) (e : Ending) (w' : World) : Prop where
  ret : e = .returned (.tuple #[])
  heap : ∃ a c, Heap W (BkT kb (.slice a n c) :: PgsT (.slice a n c) n vs :: l) w'
section
variable {W w : World} {l : List Thing}
set_option maxRecDepth 100000
set_option maxHeartbeats 4000000
theorem number_H (kb : Nat) (a : Option Addr) (n c : Nat) (hn : n ≤ 1000000) (m : BkT kb (.slice a n c) ∈ l) : AnsH W l 40 #[.pointer (some ⟨kb, 0, none⟩)] (.int .i64 ((n : Int) + 1)) := by
  intro w H
  go_enter Tryd.func40, Tryd.ntmps40
  go_wp2_with (first | go_skip | ((with_reducible show wpList _ _ _ (_ :: _) _ _); (with_reducible apply wpl_loadCH); (· exact cell_pages); (· rfl); (· rfl); (· exact H); (· exact m); (· exact bookC_g _); (simp only [Act.put, List.setIfInBounds_toArray, List.set_cons_zero, List.set_cons_succ])))
  go_ret
  exact ⟨rfl, H⟩
/-- A book with its pages so far, and their lists. -/
def Book (W : World) (l : List Thing) (kb : Nat) (ps : List PageT) (w : World) : Prop := ∃ a c, Heap W (BkT kb (.slice a ps.length c) :: PgsT (.slice a ps.length c) ps.length (ps.map PageT.v) :: (ps.map PageT.t0 ++ l)) w ∧ ∀ p ∈ ps, PageOk p
theorem Book.new {kb : Nat} (H : Heap W (BkT kb (.slice none 0 0) :: l) w) : Book W l kb [] w := ⟨none, 0, (H.nilRow _ _).perm (.swap _ _ _), by simp⟩
theorem Book.apart {kb : Nat} {ps : List PageT} (B : Book W l kb ps w) (hn : ps.length ≤ 120) : Calls Tryd.prog 22 #[.pointer (some ⟨kb, 0, none⟩)] w fun e w' => e = .returned (.bool true) ∧ Heap W l w' := by
  obtain ⟨a, c, H, hok⟩ := B
  refine (apart_H kb a ps.length c ps rfl hn hok H).mono ?_
  rintro e w' ⟨rfl, H⟩
  refine ⟨rfl, ?_⟩
  have H2 := H.tail.tail
  have key : ∀ (l1 : List Thing), Heap W (l1 ++ l) w' → Heap W l w' := by
    intro l1
    induction l1 with
    | nil => exact fun h => h
    | cons x l1 ih => exact fun h => ih h.tail
  exact key _ H2
end
end Go.Proofs.YtlinhcbjljcgbaaDoor

/- Frames: plain laws of numbers in bytes, of a frame, and of reading them, with no program in sight. -/
namespace Go.Proofs.YtlinhcbjljcgbaaDoor
set_option linter.unusedVariables false
abbrev Bs := List (BitVec 8)
/-- A number's bytes, if it takes two at most. -/
def num2 (n : Nat) : Bs := if n < 128 then [BitVec.ofNat 8 n] else [BitVec.ofNat 8 (128 + n % 128), BitVec.ofNat 8 (n / 128)]
/-- What is wrong. -/
structure Tk where
  n : Nat
  h : Nat
  e : Int
/-- A number is read: the i-th byte is the next one; so much before it. -/
def tkFrom : Nat → Nat → Nat → Bs → Tk
  | 0, _, _, _ => ⟨0, 0, 4⟩
  | fuel + 1, i, acc, [] => ⟨0, 0, 5⟩
  | fuel + 1, i, acc, c :: zs =>
    if i = 9 ∧ 1 < c.toNat then ⟨0, 0, 4⟩
    else if c.toNat < 128 then (if c.toNat = 0 ∧ 0 < i then ⟨0, 0, 4⟩ else ⟨acc + c.toNat * 128 ^ i, i + 1, 0⟩)
    else tkFrom fuel (i + 1) (acc + (c.toNat - 128) * 128 ^ i) zs
def tk (zs : Bs) : Tk := tkFrom 10 0 0 zs
/-- The first frame: its body, how many bytes it has in all, what is wrong. -/
structure Fr where
  body : Bs
  all : Nat
  e : Int
def getOf (zs : Bs) : Fr :=
  if (tk zs).e ≠ 0 then ⟨[], 0, (tk zs).e⟩
  else if 8192 < (tk zs).n then ⟨[], 0, 4⟩
  else if zs.length < (tk zs).h + (tk zs).n + 4 then ⟨[], 0, 5⟩
  else if endsOf (zs.take ((tk zs).h + (tk zs).n + 4)) = false then ⟨[], 0, 6⟩
  else ⟨(zs.drop (tk zs).h).take (tk zs).n, (tk zs).h + (tk zs).n + 4, 0⟩
/-- A body's frame. -/
def frameOf (body : Bs) : Bs := (num2 body.length ++ body) ++ four (sumOf (num2 body.length ++ body))
theorem tkFrom_e : ∀ (fuel i acc : Nat) (zs : Bs), ((tkFrom fuel i acc zs).e = 0 ∧ i + 1 ≤ (tkFrom fuel i acc zs).h ∧ (tkFrom fuel i acc zs).h ≤ i + fuel ∧ (tkFrom fuel i acc zs).h ≤ i + zs.length) ∨ ((tkFrom fuel i acc zs).e = 4 ∨ (tkFrom fuel i acc zs).e = 5) ∧ (tkFrom fuel i acc zs).h = 0 ∧ (tkFrom fuel i acc zs).n = 0
  | 0, i, acc, zs => .inr ⟨.inl rfl, rfl, rfl⟩
  | fuel + 1, i, acc, [] => .inr ⟨.inr rfl, rfl, rfl⟩
  | fuel + 1, i, acc, c :: zs => by
    rw [tkFrom]
    split
    · exact .inr ⟨.inl rfl, rfl, rfl⟩
    · split
      · split
        · exact .inr ⟨.inl rfl, rfl, rfl⟩
        · exact .inl ⟨rfl, Nat.le_refl _, by simp, by simp⟩
      · rcases tkFrom_e fuel (i + 1) (acc + (c.toNat - 128) * 128 ^ i) zs with ⟨h1, h2, h3, h4⟩ | h
        · exact .inl ⟨h1, by omega, by omega, by simp; omega⟩
        · exact .inr h
theorem tk_e (zs : Bs) : ((tk zs).e = 0 ∧ 1 ≤ (tk zs).h ∧ (tk zs).h ≤ 10 ∧ (tk zs).h ≤ zs.length) ∨ ((tk zs).e = 4 ∨ (tk zs).e = 5) ∧ (tk zs).h = 0 ∧ (tk zs).n = 0 := by
  rcases tkFrom_e 10 0 0 zs with ⟨h1, h2, h3, h4⟩ | h
  · refine .inl ⟨h1, ?_, ?_, ?_⟩ <;> unfold tk <;> omega
  · exact .inr h
/-- They end too soon just if they are too few, and each says that more follow. -/
theorem tkFrom_short : ∀ (fuel i acc : Nat) (zs : Bs), i + fuel = 10 → ((tkFrom fuel i acc zs).e = 5 ↔ zs.length < fuel ∧ ∀ c ∈ zs, 128 ≤ c.toNat)
  | 0, i, acc, zs, _ => by simp [tkFrom]
  | fuel + 1, i, acc, [], _ => by simp [tkFrom]
  | fuel + 1, i, acc, c :: zs, h => by
    rw [tkFrom]
    split
    · rename_i hc
      constructor
      · intro e; simp at e
      · intro e
        have := e.1
        simp at this
        omega
    · split
      · rename_i h2
        constructor
        · intro e; split at e <;> simp at e
        · intro e
          have := e.2 c List.mem_cons_self
          omega
      · rename_i h2
        rw [tkFrom_short fuel (i + 1) _ zs (by omega)]
        constructor
        · intro e
          refine ⟨by simp; omega, fun x hx => ?_⟩
          rcases List.mem_cons.1 hx with rfl | hx
          · omega
          · exact e.2 x hx
        · intro e
          refine ⟨by have := e.1; simp at this; omega, fun x hx => e.2 x (List.mem_cons_of_mem _ hx)⟩
theorem tk_short (zs : Bs) : (tk zs).e = 5 ↔ zs.length < 10 ∧ ∀ c ∈ zs, 128 ≤ c.toNat := tkFrom_short 10 0 0 zs rfl
theorem tkFrom_lt : ∀ (fuel i acc : Nat) (zs : Bs), i + fuel = 10 → acc < 128 ^ i → (tkFrom fuel i acc zs).n < 18446744073709551616
  | 0, i, acc, zs, _, _ => by simp [tkFrom]
  | fuel + 1, i, acc, [], _, _ => by simp [tkFrom]
  | fuel + 1, i, acc, c :: zs, h, ha => by
    have h9 : i ≤ 9 := by omega
    have hp : 128 ^ (i + 1) = 128 ^ i * 128 := Nat.pow_succ ..
    rw [tkFrom]
    split
    · simp
    · rename_i hc
      split
      · rename_i h2
        split
        · simp
        · show acc + c.toNat * 128 ^ i < 18446744073709551616
          by_cases e : i = 9
          · subst e
            have : c.toNat ≤ 1 := by omega
            have := Nat.mul_le_mul_right (128 ^ 9) this
            have e9 : (128 : Nat) ^ 9 = 9223372036854775808 := by decide
            rw [e9] at *
            omega
          · have h8 : 128 ^ i ≤ 128 ^ 8 := Nat.pow_le_pow_right (by omega) (by omega)
            have h3 : c.toNat * 128 ^ i ≤ 127 * 128 ^ i := Nat.mul_le_mul_right _ (by omega)
            have : (128 : Nat) ^ 8 = 72057594037927936 := by decide
            omega
      · rename_i h2
        refine tkFrom_lt fuel (i + 1) _ zs (by omega) ?_
        have hc2 := c.isLt
        have h3 : (c.toNat - 128) * 128 ^ i ≤ 127 * 128 ^ i := Nat.mul_le_mul_right _ (by omega)
        omega
theorem tk_lt (zs : Bs) : (tk zs).n < 18446744073709551616 := tkFrom_lt 10 0 0 zs rfl (by omega)
theorem num2_len (n : Nat) : (num2 n).length = if n < 128 then 1 else 2 := by unfold num2; split <;> rfl
/-- What was put is read, whatever stands behind. -/
theorem tk_num2 {n : Nat} (hn : n ≤ 8192) (zs : Bs) : tk (num2 n ++ zs) = ⟨n, (num2 n).length, 0⟩ := by
  unfold num2 tk
  by_cases h : n < 128
  · have e : (BitVec.ofNat 8 n).toNat = n := by rw [BitVec.toNat_ofNat]; omega
    rw [if_pos h]
    show tkFrom (9 + 1) 0 0 (BitVec.ofNat 8 n :: zs) = _
    rw [tkFrom, e, if_neg (by omega), if_pos h, if_neg (by omega)]
    simp
  · have e : (BitVec.ofNat 8 (128 + n % 128)).toNat = 128 + n % 128 := by rw [BitVec.toNat_ofNat]; omega
    have e2 : (BitVec.ofNat 8 (n / 128)).toNat = n / 128 := by rw [BitVec.toNat_ofNat]; omega
    rw [if_neg h]
    show tkFrom (9 + 1) 0 0 (BitVec.ofNat 8 (128 + n % 128) :: (BitVec.ofNat 8 (n / 128) :: zs)) = _
    rw [tkFrom, e, if_neg (by omega), if_neg (by omega)]
    show tkFrom (8 + 1) (0 + 1) _ (BitVec.ofNat 8 (n / 128) :: zs) = _
    rw [tkFrom, e2, if_neg (by omega), if_pos (by omega), if_neg (by omega)]
    simp
    omega
theorem four_len (x : BitVec 32) : (four x).length = 4 := rfl
theorem frameOf_len (body : Bs) : (frameOf body).length = (num2 body.length).length + body.length + 4 := by
  unfold frameOf
  simp [four_len]
  omega
theorem endsOf_frame (zs : Bs) : endsOf (zs ++ four (sumOf zs)) = true := by
  unfold endsOf
  simp [four_len]
theorem getOf_frame {body : Bs} (h : body.length ≤ 8192) (zs : Bs) : getOf (frameOf body ++ zs) = ⟨body, (frameOf body).length, 0⟩ := by
  have e1 : tk (frameOf body ++ zs) = ⟨body.length, (num2 body.length).length, 0⟩ := by
    unfold frameOf
    rw [List.append_assoc, List.append_assoc]
    exact tk_num2 h _
  have e2 : (num2 body.length).length + body.length + 4 = (frameOf body).length := (frameOf_len body).symm
  unfold getOf
  rw [e1]
  simp only [ne_eq, not_true_eq_false, if_false]
  rw [if_neg (by omega), e2, if_neg (by simp), List.take_left]
  have e3 : endsOf (frameOf body) = true := endsOf_frame _
  rw [e3]
  simp only [Bool.true_eq_false, if_false, Fr.mk.injEq, and_true]
  unfold frameOf
  rw [List.append_assoc, List.append_assoc, List.drop_left, List.take_left]
end Go.Proofs.YtlinhcbjljcgbaaDoor
