/- Rows of one's own that begin anywhere in their block (a queue: s = s[1:], s = append(s, x)). -/
import Derived.Test.YtacglcpjbepfnaaHeapOwn
namespace Go.Proofs.Ytacglcpjbepfnaa
open Go.RowKit
set_option linter.unusedSimpArgs false
set_option linter.unusedVariables false
/-- A row of a slice's value v, wherever in its block. -/
def OwnT (e size : Nat) (v : Value) (n : Nat) (xs : List Value) : Thing := ⟨v.ownBlock, fun w => Own w 0 e size v n xs, fun w w' h ho => ho.same h⟩
theorem RowT.own {w : World} {e size n : Nat} {v : Value} {xs : List Value} (h : (RowT e size v n xs).ok w) : (OwnT e size v n xs).ok w := Own.ofRow h
theorem Heap.slide {W w : World} {l : List Thing} {e size n : Nat} {v : Value} {xs : List Value} (H : Heap W (RowT e size v n xs :: l) w) : Heap W (OwnT e size v n xs :: l) w :=
  H.head (World.grownBy.refl _ _) (RowT.own (H.ok _ List.mem_cons_self)) (.inl rfl)
theorem Heap.ownRd {W w : World} {l : List Thing} {e size n c : Nat} {a : Option Addr} {xs : List Value} (H : Heap W l w) (m : OwnT e size (.slice a n c) n xs ∈ l) : Rd w a xs := by
  obtain ⟨ao, c', he, hr, _⟩ := Own.rd (H.ok _ m)
  simp only [Value.slice.injEq, true_and] at he
  obtain ⟨rfl, _⟩ := he
  exact hr
theorem OwnT.form {w : World} {e size n : Nat} {v : Value} {xs : List Value} (h : (OwnT e size v n xs).ok w) (hn : 0 < n) : ∃ g o c, v = .slice (some ⟨g, o, none⟩) n c ∧ n ≤ c ∧ c ≤ maxLen := by
  obtain ⟨_, ⟨_, rfl⟩ | ⟨g, off, cap, cur, rfl, _, _, h1, h2, _⟩⟩ := h
  · omega
  · exact ⟨g, off, cap, rfl, h1, h2⟩
/-- s[1:]. -/
theorem Own.tail {w : World} {base e size g off n c : Nat} {xs : List Value} (h : Own w base e size (.slice (some ⟨g, off, none⟩) n c) n xs) (hn : 1 ≤ n) :
    Own w base e size (.slice (cutA (some ⟨g, off, none⟩) c 1 size) (n - 1) (c - 1)) (n - 1) (xs.drop size) := by
  obtain ⟨hl, ⟨hv, _⟩ | ⟨g', off', cap, cur, hv, hb, hg, hnc, hcm, hs, ht⟩⟩ := h
  · cases hv
  · simp only [Value.slice.injEq, Option.some.injEq, Addr.mk.injEq, true_and] at hv
    obtain ⟨⟨rfl, rfl, _⟩, rfl⟩ := hv
    have hsz : n * size = size + (n - 1) * size := by
      obtain ⟨k, rfl⟩ : ∃ k, n = k + 1 := ⟨n - 1, by omega⟩
      rw [Nat.add_sub_cancel, Nat.add_mul]; omega
    refine ⟨by simp [hl]; omega, .inr ?_⟩
    by_cases hc : c = 1
    · subst hc
      obtain rfl : n = 1 := by omega
      refine ⟨g, off, 0, cur, by simp [cutA], hb, hg, by omega, by omega, by omega, ?_⟩
      simp only [Nat.sub_self, Nat.zero_mul, List.take_zero]
      rw [List.drop_of_length_le (by rw [hl]; omega)]
    · refine ⟨g, off + size, c - 1, cur, by simp [cutA, hc, addr_add], hb, hg, by omega, by omega, ?_, ?_⟩
      · have : c * size = size + (c - 1) * size := by
          obtain ⟨k, rfl⟩ : ∃ k, c = k + 1 := ⟨c - 1, by omega⟩
          rw [Nat.add_sub_cancel, Nat.add_mul]; omega
        omega
      · rw [← ht, hsz, List.drop_take, List.drop_drop, Nat.add_sub_cancel_left]
theorem Heap.ownTail {W w : World} {l : List Thing} {e size g off n c : Nat} {xs : List Value} (H : Heap W (OwnT e size (.slice (some ⟨g, off, none⟩) n c) n xs :: l) w) (hn : 1 ≤ n) :
    Heap W (OwnT e size (.slice (cutA (some ⟨g, off, none⟩) c 1 size) (n - 1) (c - 1)) (n - 1) (xs.drop size) :: l) w := by
  refine H.head (World.grownBy.refl _ _) (Own.tail (H.ok _ List.mem_cons_self) hn) (.inl ?_)
  unfold OwnT cutA
  simp only
  split
  · rfl
  · simp [Value.ownBlock, Addr.add]
    split <;> rfl
section
variable {P : Program}
theorem run_append_roomO (w : World) (t ty e : TypeId) (i : TypeInfo) (ht : P.underlying t = some (.slice e)) (hi : P.info? e = some i)
    (g off sLen sCap : Nat) (cur : Array Value) (hg : w.heap[g]? = some (.cells cur e (0, 0)))
    (a : Addr) (m c : Nat) (news : List Value) (hl : news.length = m * i.size) (hnews : ∀ j u, news[j]? = some u → w.cell? (a.add j) = some u) (h1 : ∀ u ∈ news, u.oneCell' = true)
    (hroom : sLen + m ≤ sCap) (hfit : off + sLen * i.size + news.length ≤ cur.size) :
    (Builtin.append_ #[t, t] ty #[.slice (some ⟨g, off, none⟩) sLen sCap, .slice (some a) m c]).run P w =
      .ok (.slice (some ⟨g, off, none⟩) (sLen + m) sCap) (w.setRow g (cur.toList.take (off + sLen * i.size) ++ news ++ cur.toList.drop (off + sLen * i.size + news.length)).toArray) := by
  have hf := run_firstCells_some (P := P) w i.size m a m c news hl hnews
  have hst := run_storeCells_at P g (off + sLen * i.size) e news 0 cur w hg (by simpa using hfit) h1
  simp only [Nat.add_zero] at hst
  have ha : (⟨g, off, none⟩ : Addr).add (sLen * i.size) = ⟨g, off + sLen * i.size, none⟩ := addr_add g off _
  simp [Builtin.append_, run_underlying ht, sizeOf, typeInfo, hi, Builtin.lenOf, hroom, hf, ha, hst]
end
section
variable {ops : Array Oper} {rest : List Oper} {o : Oper} {a : Act} {w W : World} {l : List Thing} {Q : Exit → Act → World → Prop}
/-- append(s, x...) to such a row. -/
theorem wpl_appendO {t e size bytes : Nat} {z : Value} (T : SlTy Try.prog t e size bytes z) (hgd : o.guard = none) {s x : Operand}
    (ho : o.op = .call { callee := .builtin .append, args := #[s, x], argTypes := #[t, t] }) {v : Value} (hs : a.eval s = v) {b off m c : Nat} (hx : a.eval x = .slice (some ⟨b, off, none⟩) m c)
    {n : Nat} {xs news : List Value} (H : Heap W (OwnT e size v n xs :: l) w) (hrd : Rd w (some ⟨b, off, none⟩) news) (hl : news.length = m * size) (h1 : OneCells news)
    (h63 : n + m ≤ maxLen) (hbytes : (n + m) * bytes ≤ 140737488355328)
    (h : ∀ v' w', Heap W (OwnT e size v' (n + m) (xs ++ news) :: l) w' → wpList Try.prog ops Q rest (a.put o.dst v') w') : wpList Try.prog ops Q (o :: rest) a w := by
  have hown := H.ok _ List.mem_cons_self
  obtain ⟨hxl, ⟨rfl, rfl⟩ | ⟨g, off', cap, cur, rfl, _, hg, hnc, hcm, hsz, htk⟩⟩ := hown
  · have hx0 : xs = [] := List.eq_nil_of_length_eq_zero (by simpa using hxl)
    subst hx0
    have H2 : Heap W (RowT e size (.slice none 0 0) 0 [] :: l) w := H.tail.nilRow e size
    exact wpl_appendH T hgd ho hs hx H2 hrd hl h1 h63 hbytes fun v' w' H' => h v' w' H'.slide
  · by_cases hroom : n + m ≤ cap
    · obtain ⟨i, hi, hz, hsi, hbi⟩ := T.inf
      subst hsi
      have hms : (n + m) * i.size ≤ cap * i.size := Nat.mul_le_mul_right _ hroom
      rw [Nat.add_mul] at hms
      have hfit : off' + n * i.size + news.length ≤ cur.size := by omega
      have hr := run_append_roomO (P := Try.prog) w t o.type e i T.und hi g off' n cap cur hg ⟨b, off, none⟩ m c news hl hrd.addr h1 hroom hfit
      refine wpList_plain hgd fun K hK => ?_
      unfold Oper.wp execOp
      simp only [ho, resolve, invoke, builtin, Sem.run_bind, Sem.run_pure, Result.andThen_ok, List.map_toArray, List.map_cons, List.map_nil, hs, hx, hr]
      have hxs : xs.length = n * i.size := hxl
      refine hK _ _ (h _ _ (H.head ⟨rfl, rfl, rfl, by simp, fun k _ hk => setRow_other w g k _ (fun e => hk (by show some k = some g; rw [e]))⟩ ⟨by rw [List.length_append, hxs, hl, Nat.add_mul], .inr ⟨g, off', cap, _, rfl, Nat.zero_le _, setRow_heap w g cur _ e _ hg, hroom, hcm, ?_, ?_⟩⟩ (.inl rfl)))
      · simp only [List.size_toArray, List.length_append, List.length_take, List.length_drop, Array.length_toList]
        omega
      · have hA : (cur.toList.take (off' + n * i.size)).length = off' + n * i.size := by simp; omega
        simp only [List.append_assoc]
        rw [List.drop_append_of_le_length (by rw [hA]; omega), List.drop_take, Nat.add_sub_cancel_left, htk, ← List.append_assoc, show (n + m) * i.size = (xs ++ news).length by rw [List.length_append, hxs, hl, Nat.add_mul]]
        exact List.take_left
    · obtain ⟨i, hi, hz, hsi, hbi⟩ := T.inf
      subst hsi
      subst hbi
      have hown' : Own w 0 e i.size (.slice (some ⟨g, off', none⟩) n cap) n xs := ⟨hxl, .inr ⟨g, off', cap, cur, rfl, Nat.zero_le _, hg, hnc, hcm, hsz, htk⟩⟩
      have hrd0 : Rd w (some ⟨g, off', none⟩) xs := by
        obtain ⟨ao, c', he, hr, _⟩ := Own.rd hown'
        simp only [Value.slice.injEq, true_and] at he
        obtain ⟨rfl, _⟩ := he
        exact hr
      have hr := run_append_grow (P := Try.prog) w t o.type e i z T.und hi hz ⟨g, off', none⟩ n cap xs hxl hrd0.addr ⟨b, off, none⟩ m c news hl hrd.addr (by omega) (by unfold maxLen at h63; omega) (growslice_fits (by omega) hbytes)
      have hge := grownCap_ge w (n + m) cap e
      have hcm2 : grownCap w (n + m) cap e ≤ maxLen := grownCap_le_maxLen w (n + m) cap e h63
      refine wpList_plain hgd fun K hK => ?_
      unfold Oper.wp execOp
      simp only [ho, resolve, invoke, builtin, Sem.run_bind, Sem.run_pure, Result.andThen_ok, List.map_toArray, List.map_cons, List.map_nil, hs, hx, hr]
      refine hK _ _ (h _ _ (H.head ⟨rfl, rfl, rfl, by simp, fun k hk _ => Below.heap_alloc w.drew _ k hk⟩ ⟨by rw [List.length_append, hxl, hl, Nat.add_mul], .inr ⟨w.heap.size, 0, _, _, rfl, Nat.zero_le _, heap_alloc_new w.drew _, hge, hcm2, ?_, ?_⟩⟩ (.inr fun k hk => ?_)))
      · simp only [Array.size_append, List.size_toArray, size_zeroCells, T.zc, hxl, hl, ← Nat.add_mul]
        rw [Nat.zero_add]
        have : n + m + (grownCap w (n + m) cap e - (n + m)) = grownCap w (n + m) cap e := by omega
        rw [this]
        exact Nat.le_refl _
      · simp only [Array.toList_append, List.append_assoc, List.drop_zero]
        rw [← List.append_assoc, show (n + m) * i.size = (xs ++ news).length by rw [List.length_append, hxl, hl, Nat.add_mul]]
        exact List.take_left
      · have hk' : some w.heap.size = some k := hk
        cases hk'
        exact ⟨Nat.le_refl _, by simp⟩
theorem wpl_loadCell {T : TypeId} {dst : Option Tmp} {ty : TypeId} {pos : String} {after : Array Edge} {guard : Option (Nat × Bool)} {x : Operand} {b off : Nat} (CT : CellTy T) (hw : Region.wanted ⟨dst, .load T x, ty, pos, after, guard⟩ (yielded ops a.tmps) = true) (hx : a.eval x = .pointer (some ⟨b, off, none⟩))
    {v : Value} (hc : w.cell? ⟨b, off, none⟩ = some v) (h : wpList Try.prog ops Q rest (a.put dst v) w) : wpList Try.prog ops Q (⟨dst, .load T x, ty, pos, after, guard⟩ :: rest) a w := by
  simp only [World.cell?, if_true] at hc
  cases hb : w.heap[b]? with
  | none => rw [hb] at hc; cases hc
  | some o =>
    rw [hb] at hc
    cases o <;> first | (cases hc; done) | skip
    rename_i cs t f
    exact wpl_loadC CT hw hx hb hc h
theorem wpl_cut1 {t e size bytes : Nat} {z : Value} (T : SlTy Try.prog t e size bytes z) {dst : Option Tmp} {ty : TypeId} {pos : String} {after : Array Edge} {guard : Option (Nat × Bool)} {x : Operand} (hw : Region.wanted ⟨dst, .slice t x (some (.const (.int .i64 1))) none none, ty, pos, after, guard⟩ (yielded ops a.tmps) = true)
    {ao : Option Addr} {n c : Nat} (hx : a.eval x = .slice ao n c) (hn : 1 ≤ n) (h : wpList Try.prog ops Q rest (a.put dst (.slice (cutA ao c 1 size) (n - 1) (c - 1))) w) : wpList Try.prog ops Q (⟨dst, .slice t x (some (.const (.int .i64 1))) none none, ty, pos, after, guard⟩ :: rest) a w := by
  refine wpl_pure hw _ (fun w => ?_) h
  have hr : (Instr.slice t (.slice ao n c) (some (.int .i64 1)) none none).run Try.prog w = .ok (.slice (cutA ao c 1 size) (n - 1) (c - 1)) w := run_cutFrom (P := Try.prog) T ao n c 1 .i64 hn w
  have hs : (Instr.sliceAt t (.slice ao n c) (some (.int .i64 1)) none none).run Try.prog w = .ok (.slice (cutA ao c 1 size) (n - 1) (c - 1)) w := by
    unfold Instr.sliceAt
    rw [Sem.run_bind, run_underlying T.und]
    simp only [Result.andThen_ok]
    exact hr
  have e : (some (Operand.const (.int .i64 1))).map a.eval = some (.int .i64 1) := rfl
  unfold execOp
  simp only [hx, e, Option.map_none, Sem.run_bind, hs, Result.andThen_ok, Sem.run_pure]
/-- A block as a row that is full. -/
theorem Heap.celOwn {W w : World} {l : List Thing} {g e size n : Nat} {c : Array Value} (H : Heap W (Cel g c e :: l) w) (hc : c.size = n * size) (hn : n ≤ maxLen) : Heap W (OwnT e size (.slice (some ⟨g, 0, none⟩) n n) n c.toList :: l) w :=
  H.head (World.grownBy.refl _ _) ⟨by simpa using hc, .inr ⟨g, 0, n, c, rfl, Nat.zero_le _, H.blk List.mem_cons_self, Nat.le_refl _, hn, by omega, by rw [List.drop_zero, List.take_of_length_le (by simp [hc])]⟩⟩ (.inl rfl)
/-- The head of a block as a row. -/
theorem Heap.celOwnP {W w : World} {l : List Thing} {g e size n m : Nat} {c : Array Value} (H : Heap W (Cel g c e :: l) w) (hc : m * size ≤ c.size) (hn : n ≤ m) (hm : m ≤ maxLen) : Heap W (OwnT e size (.slice (some ⟨g, 0, none⟩) n m) n (c.toList.take (n * size)) :: l) w := by
  have h2 : n * size ≤ m * size := Nat.mul_le_mul_right _ hn
  exact H.head (World.grownBy.refl _ _) ⟨by simp; omega, .inr ⟨g, 0, m, c, rfl, Nat.zero_le _, H.blk List.mem_cons_self, hn, hm, by omega, by rw [List.drop_zero]⟩⟩ (.inl rfl)
/-- make([]T, n, m). -/
theorem wpl_makeC {t e size bytes : Nat} {z : Value} (T : SlTy Try.prog t e size bytes z) {dst : Option Tmp} {ty : TypeId} {pos : String} {after : Array Edge} {guard : Option (Nat × Bool)} {x y : Operand} (hw : Region.wanted ⟨dst, .makeSlice t x y, ty, pos, after, guard⟩ (yielded ops a.tmps) = true)
    {kl kc : IntKind} {L C : Int} (n m : Nat) (hx : a.eval x = .int kl L) (hy : a.eval y = .int kc C) (hL : L = (n : Int)) (hC : C = (m : Int)) (hnm : n ≤ m) (hm : m ≤ 65536) (hb : bytes * m ≤ 281474976710656)
    (H : Heap W l w) (h : ∀ p w', Heap W (Cel p (madeCells z.cells (m * size)) e :: l) w' → wpList Try.prog ops Q rest (a.put dst (.slice (some ⟨p, 0, none⟩) n m)) w') : wpList Try.prog ops Q (⟨dst, .makeSlice t x y, ty, pos, after, guard⟩ :: rest) a w := by
  subst hL hC
  obtain ⟨i, hi, hz, hsi, hbi⟩ := T.inf
  subst hsi hbi
  have hb2 : (i.bytes : Int) * (m : Int) ≤ 281474976710656 := by rw [← Int.natCast_mul]; omega
  have hr := run_make (P := Try.prog) w t e i z T.und hi hz kl kc (n : Int) (m : Int) (by omega) (by omega) hb2 (by omega)
  simp only [Int.toNat_natCast] at hr
  refine BigFrame.wpList_want hw fun K hK => ?_
  unfold Oper.wp execOp
  simp only [hx, hy, Sem.run_bind, hr, Result.andThen_ok, Sem.run_pure]
  exact hK _ _ (h _ _ (H.alloc _ _))
end
end Go.Proofs.Ytacglcpjbepfnaa
