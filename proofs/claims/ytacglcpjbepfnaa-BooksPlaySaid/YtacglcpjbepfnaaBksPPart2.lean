/- Part 2 of what ProofBooksPlay stands on: HeapSlide, Full, BkApart, BkRows, RatB, Bok1, Append. -/
import Derived.Test.YtacglcpjbepfnaaBksPPart1
import Derived.BigQuiet
import Derived.Deep.CutBlock
import Derived.Deep.DeepCutAuto
import Derived.Deep.QuietTactic
import Derived.Deep.RegionHeld3
import Derived.Deep.RegionWith
import Derived.Handy
import Derived.Laws.Bits64
import Derived.Laws.Bits64b
import Derived.Laws.Rows
import Derived.Laws.StructEq
import Derived.Lib.Hide
import Derived.Lib.ItoaNum
import Derived.Lib.SmallJoins
import Derived.Outline
import Derived.OwnWalk
import Derived.Scope
import Derived.ScopeJumps
import Derived.Shelf.Small.Bits
import Derived.Shelf.Spec.BitsCarry
import Derived.Shelf.Strconv.Itoa0
import Derived.Test.YtacglcpjbepfnaaShelfM
import Derived.WalkKit
import Derived.WalkMore
import Derived.WalkSmall
import Derived.WalkSpells
/- Rows of one's own that begin anywhere in their block (a queue: s = s[1:], s = append(s, x)). -/
namespace Go.Proofs.Ytacglcpjbepfnaa
open Go.RowKit
set_option linter.unusedSimpArgs false
set_option linter.unusedVariables false
/-- A row of a slice's value v, wherever in its block. -/
def OwnT (e size : Nat) (v : Value) (n : Nat) (xs : List Value) : Thing := ⟨v.ownBlock, fun w => Own w 0 e size v n xs, fun w w' h ho => ho.same h⟩
theorem RowT.own {w : World} {e size n : Nat} {v : Value} {xs : List Value} (h : (RowT e size v n xs).ok w) : (OwnT e size v n xs).ok w := Own.ofRow h
theorem Heap.slide {W w : World} {l : List Thing} {e size n : Nat} {v : Value} {xs : List Value} (H : Heap W (RowT e size v n xs :: l) w) : Heap W (OwnT e size v n xs :: l) w :=
  H.head (World.grownBy.refl _ _) (RowT.own (H.ok _ List.mem_cons_self)) (.inl rfl)
theorem Heap.ownRd {W w : World} {l : List Thing} {e size n c : Nat} {a : Option Addr} {xs : List Value} (H : Heap W l w) (m : OwnT e size (.slice a n c) n xs ∈ l) : Rd w a xs := by
  obtain ⟨ao, c', he, hr, _⟩ := Own.rd (H.ok _ m)
  simp only [Value.slice.injEq, true_and] at he
  obtain ⟨rfl, _⟩ := he
  exact hr
theorem OwnT.form {w : World} {e size n : Nat} {v : Value} {xs : List Value} (h : (OwnT e size v n xs).ok w) (hn : 0 < n) : ∃ g o c, v = .slice (some ⟨g, o, none⟩) n c ∧ n ≤ c ∧ c ≤ maxLen := by
  obtain ⟨_, ⟨_, rfl⟩ | ⟨g, off, cap, cur, rfl, _, _, h1, h2, _⟩⟩ := h
  · omega
  · exact ⟨g, off, cap, rfl, h1, h2⟩
/-- s[1:]. -/
theorem Own.tail {w : World} {base e size g off n c : Nat} {xs : List Value} (h : Own w base e size (.slice (some ⟨g, off, none⟩) n c) n xs) (hn : 1 ≤ n) :
    Own w base e size (.slice (cutA (some ⟨g, off, none⟩) c 1 size) (n - 1) (c - 1)) (n - 1) (xs.drop size) := by
  obtain ⟨hl, ⟨hv, _⟩ | ⟨g', off', cap, cur, hv, hb, hg, hnc, hcm, hs, ht⟩⟩ := h
  · cases hv
  · simp only [Value.slice.injEq, Option.some.injEq, Addr.mk.injEq, true_and] at hv
    obtain ⟨⟨rfl, rfl, _⟩, rfl⟩ := hv
    have hsz : n * size = size + (n - 1) * size := by
      obtain ⟨k, rfl⟩ : ∃ k, n = k + 1 := ⟨n - 1, by omega⟩
      rw [Nat.add_sub_cancel, Nat.add_mul]; omega
    refine ⟨by simp [hl]; omega, .inr ?_⟩
    by_cases hc : c = 1
    · subst hc
      obtain rfl : n = 1 := by omega
      refine ⟨g, off, 0, cur, by simp [cutA], hb, hg, by omega, by omega, by omega, ?_⟩
      simp only [Nat.sub_self, Nat.zero_mul, List.take_zero]
      rw [List.drop_of_length_le (by rw [hl]; omega)]
    · refine ⟨g, off + size, c - 1, cur, by simp [cutA, hc, addr_add], hb, hg, by omega, by omega, ?_, ?_⟩
      · have : c * size = size + (c - 1) * size := by
          obtain ⟨k, rfl⟩ : ∃ k, c = k + 1 := ⟨c - 1, by omega⟩
          rw [Nat.add_sub_cancel, Nat.add_mul]; omega
        omega
      · rw [← ht, hsz, List.drop_take, List.drop_drop, Nat.add_sub_cancel_left]
section
variable {P : Program}
theorem run_append_roomO (w : World) (t ty e : TypeId) (i : TypeInfo) (ht : P.underlying t = some (.slice e)) (hi : P.info? e = some i)
    (g off sLen sCap : Nat) (cur : Array Value) (hg : w.heap[g]? = some (.cells cur e (0, 0)))
    (a : Addr) (m c : Nat) (news : List Value) (hl : news.length = m * i.size) (hnews : ∀ j u, news[j]? = some u → w.cell? (a.add j) = some u) (h1 : ∀ u ∈ news, u.oneCell' = true)
    (hroom : sLen + m ≤ sCap) (hfit : off + sLen * i.size + news.length ≤ cur.size) :
    (Builtin.append_ #[t, t] ty #[.slice (some ⟨g, off, none⟩) sLen sCap, .slice (some a) m c]).run P w =
      .ok (.slice (some ⟨g, off, none⟩) (sLen + m) sCap) (w.setRow g (cur.toList.take (off + sLen * i.size) ++ news ++ cur.toList.drop (off + sLen * i.size + news.length)).toArray) := by
  have hf := run_firstCells_some (P := P) w i.size m a m c news hl hnews
  have hst := run_storeCells_at P g (off + sLen * i.size) e news 0 cur w hg (by simpa using hfit) h1
  simp only [Nat.add_zero] at hst
  have ha : (⟨g, off, none⟩ : Addr).add (sLen * i.size) = ⟨g, off + sLen * i.size, none⟩ := addr_add g off _
  simp [Builtin.append_, run_underlying ht, sizeOf, typeInfo, hi, Builtin.lenOf, hroom, hf, ha, hst]
end
section
variable {ops : Array Oper} {rest : List Oper} {o : Oper} {a : Act} {w W : World} {l : List Thing} {Q : Exit → Act → World → Prop}
theorem wpl_loadCell {T : TypeId} {dst : Option Tmp} {ty : TypeId} {pos : String} {after : Array Edge} {guard : Option (Nat × Bool)} {x : Operand} {b off : Nat} (CT : CellTy T) (hw : Region.wanted ⟨dst, .load T x, ty, pos, after, guard⟩ (yielded ops a.tmps) = true) (hx : a.eval x = .pointer (some ⟨b, off, none⟩))
    {v : Value} (hc : w.cell? ⟨b, off, none⟩ = some v) (h : wpList Try.prog ops Q rest (a.put dst v) w) : wpList Try.prog ops Q (⟨dst, .load T x, ty, pos, after, guard⟩ :: rest) a w := by
  simp only [World.cell?, if_true] at hc
  cases hb : w.heap[b]? with
  | none => rw [hb] at hc; cases hc
  | some o =>
    rw [hb] at hc
    cases o <;> first | (cases hc; done) | skip
    rename_i cs t f
    exact wpl_loadC CT hw hx hb hc h
/-- A block as a row that is full. -/
theorem Heap.celOwn {W w : World} {l : List Thing} {g e size n : Nat} {c : Array Value} (H : Heap W (Cel g c e :: l) w) (hc : c.size = n * size) (hn : n ≤ maxLen) : Heap W (OwnT e size (.slice (some ⟨g, 0, none⟩) n n) n c.toList :: l) w :=
  H.head (World.grownBy.refl _ _) ⟨by simpa using hc, .inr ⟨g, 0, n, c, rfl, Nat.zero_le _, H.blk List.mem_cons_self, Nat.le_refl _, hn, by omega, by rw [List.drop_zero, List.take_of_length_le (by simp [hc])]⟩⟩ (.inl rfl)
/-- make([]T, n, m). -/
theorem wpl_makeC {t e size bytes : Nat} {z : Value} (T : SlTy Try.prog t e size bytes z) {dst : Option Tmp} {ty : TypeId} {pos : String} {after : Array Edge} {guard : Option (Nat × Bool)} {x y : Operand} (hw : Region.wanted ⟨dst, .makeSlice t x y, ty, pos, after, guard⟩ (yielded ops a.tmps) = true)
    {kl kc : IntKind} {L C : Int} (n m : Nat) (hx : a.eval x = .int kl L) (hy : a.eval y = .int kc C) (hL : L = (n : Int)) (hC : C = (m : Int)) (hnm : n ≤ m) (hm : m ≤ 65536) (hb : bytes * m ≤ 281474976710656)
    (H : Heap W l w) (h : ∀ p w', Heap W (Cel p (madeCells z.cells (m * size)) e :: l) w' → wpList Try.prog ops Q rest (a.put dst (.slice (some ⟨p, 0, none⟩) n m)) w') : wpList Try.prog ops Q (⟨dst, .makeSlice t x y, ty, pos, after, guard⟩ :: rest) a w := by
  subst hL hC
  obtain ⟨i, hi, hz, hsi, hbi⟩ := T.inf
  subst hsi hbi
  have hb2 : (i.bytes : Int) * (m : Int) ≤ 281474976710656 := by rw [← Int.natCast_mul]; omega
  have hr := run_make (P := Try.prog) w t e i z T.und hi hz kl kc (n : Int) (m : Int) (by omega) (by omega) hb2 (by omega)
  simp only [Int.toNat_natCast] at hr
  refine BigFrame.wpList_want hw fun K hK => ?_
  unfold Oper.wp execOp
  simp only [hx, hy, Sem.run_bind, hr, Result.andThen_ok, Sem.run_pure]
  exact hK _ _ (h _ _ (H.alloc _ _))
end
end Go.Proofs.Ytacglcpjbepfnaa

/- Rows of one's own, written in place; rows with all their room. -/
namespace Go.Proofs.Ytacglcpjbepfnaa
open Go.RowKit
set_option linter.unusedSimpArgs false
set_option linter.unusedVariables false
/-- A row with all its room. -/
def FullT (e size : Nat) (a : Option Addr) (n c : Nat) (P : List Value → Prop) : Thing :=
  ⟨(Value.slice a n c).ownBlock, fun w => n ≤ c ∧ c ≤ maxLen ∧ ∃ xs, Own w 0 e size (.slice a c c) c xs ∧ P xs, fun w w' h ⟨hn, hm, xs, ho, hp⟩ => ⟨hn, hm, xs, ho.same fun k hk => h k (by cases a <;> exact hk), hp⟩⟩
theorem Own.full {w : World} {e size n c : Nat} {a : Option Addr} {xs : List Value} (h : Own w 0 e size (.slice a n c) n xs) : n ≤ c ∧ c ≤ maxLen ∧ ∃ ys, Own w 0 e size (.slice a c c) c ys := by
  obtain ⟨hl, ⟨hv, hn⟩ | ⟨g, off, cap, cur, hv, hb, hg, hnc, hcm, hs, ht⟩⟩ := h
  · simp only [Value.slice.injEq] at hv
    obtain ⟨rfl, rfl, rfl⟩ := hv
    exact ⟨Nat.le_refl _, by unfold maxLen; omega, [], by simp, .inl ⟨rfl, rfl⟩⟩
  · simp only [Value.slice.injEq, true_and] at hv
    obtain ⟨rfl, rfl⟩ := hv
    refine ⟨hnc, hcm, (cur.toList.drop off).take (c * size), ?_, .inr ⟨g, off, c, cur, rfl, hb, hg, Nat.le_refl _, hcm, hs, rfl⟩⟩
    simp
    omega
section
variable {W w : World} {l : List Thing} {e size n c : Nat} {a : Option Addr} {xs : List Value} {P Q : List Value → Prop}
theorem Heap.toFull (H : Heap W (OwnT e size (.slice a n c) n xs :: l) w) : Heap W (FullT e size a n c (fun _ => True) :: l) w := by
  obtain ⟨h1, h2, ys, h3⟩ := Own.full (H.ok _ List.mem_cons_self)
  exact H.head (World.grownBy.refl _ _) ⟨h1, h2, ys, h3, trivial⟩ (.inl rfl)
theorem Heap.openFull (H : Heap W (FullT e size a n c P :: l) w) : ∃ xs, P xs ∧ n ≤ c ∧ c ≤ maxLen ∧ xs.length = c * size ∧ (a = none → c = 0) ∧ Heap W (OwnT e size (.slice a c c) c xs :: l) w := by
  obtain ⟨h1, h2, xs, h3, h4⟩ := H.ok _ List.mem_cons_self
  refine ⟨xs, h4, h1, h2, h3.1, fun e => ?_, H.head (World.grownBy.refl _ _) h3 (.inl (by cases a <;> rfl))⟩
  subst e
  obtain ⟨_, ⟨hv, _⟩ | ⟨g, off, cap, cur, hv, _⟩⟩ := h3
  · simp only [Value.slice.injEq] at hv; exact hv.2.2
  · simp at hv
theorem Heap.shutFull (H : Heap W (OwnT e size (.slice a c c) c xs :: l) w) (hn : n ≤ c) (hc : c ≤ maxLen) (hP : P xs) : Heap W (FullT e size a n c P :: l) w :=
  H.head (World.grownBy.refl _ _) ⟨hn, hc, xs, H.ok _ List.mem_cons_self, hP⟩ (.inl (by cases a <;> rfl))
theorem Heap.clipOwn (H : Heap W (OwnT e size (.slice a n c) n xs :: l) w) : Heap W (OwnT e size (.slice a n n) n xs :: l) w :=
  H.head (World.grownBy.refl _ _) (Own.clip (H.ok _ List.mem_cons_self)) (.inl (by cases a <;> rfl))
theorem OwnT.room (h : (OwnT e size (.slice a n c) n xs).ok w) : n ≤ c ∧ c ≤ maxLen := ⟨(Own.full h).1, (Own.full h).2.1⟩
theorem OwnT.len {v : Value} (h : (OwnT e size v n xs).ok w) : xs.length = n * size := h.1
end
theorem Own.put {w : World} {g off n c e size : Nat} {xs : List Value} (h : Own w 0 e size (.slice (some ⟨g, off, none⟩) n c) n xs) {cur : Array Value} {t : TypeId} (hb : blk w g = some (.cells cur t (0, 0))) (j : Nat) (c2 : Array Value) (hj : j + c2.size ≤ xs.length) :
    Own (setBlk w g (splice cur (off + j) c2)) 0 e size (.slice (some ⟨g, off, none⟩) n c) n (xs.take j ++ c2.toList ++ xs.drop (j + c2.size)) := by
  obtain ⟨hl, ⟨hv, _⟩ | ⟨g', off', cap, cur', hv, hb', hg, hnc, hcm, hs, ht⟩⟩ := h
  · cases hv
  · simp only [Value.slice.injEq, Option.some.injEq, Addr.mk.injEq, true_and] at hv
    obtain ⟨⟨rfl, rfl, _⟩, rfl⟩ := hv
    have hb2 : w.heap[g]? = some (.cells cur t (0, 0)) := hb
    rw [hg] at hb2
    cases hb2
    have hnm : n * size ≤ c * size := Nat.mul_le_mul_right _ hnc
    refine ⟨by simp; omega, .inr ⟨g, off, c, splice cur (off + j) c2, rfl, hb', setBlk_same w g _ cur _ _ hg, hnc, hcm, ?_, ?_⟩⟩
    · unfold splice
      simp
      omega
    · unfold splice
      rw [List.toList_toArray]
      apply List.ext_getElem?
      intro i
      have hxi : ∀ i, i < n * size → xs[i]? = cur.toList[off + i]? := fun i hi => by
        rw [← ht, List.getElem?_take, if_pos hi, List.getElem?_drop]
      have hsz : cur.toList.length = cur.size := Array.length_toList
      rw [List.getElem?_take]
      by_cases hi : i < n * size
      · rw [if_pos hi, List.getElem?_drop]
        have hA : (cur.toList.take (off + j)).length = off + j := by simp; omega
        have hB : (xs.take j).length = j := by simp; omega
        by_cases h1 : i < j
        · rw [List.append_assoc, List.getElem?_append_left (by rw [hA]; omega), List.append_assoc, List.getElem?_append_left (by rw [hB]; omega), List.getElem?_take, if_pos (by omega), List.getElem?_take, if_pos h1, hxi i hi]
        · rw [List.append_assoc, List.append_assoc, List.getElem?_append_right (l₁ := cur.toList.take (off + j)) (by rw [hA]; omega), List.getElem?_append_right (l₁ := xs.take j) (by rw [hB]; omega), hA, hB, show off + i - (off + j) = i - j by omega]
          by_cases h2 : i - j < c2.size
          · rw [List.getElem?_append_left (by simpa using h2), List.getElem?_append_left (by simpa using h2)]
          · rw [List.getElem?_append_right (by simp; omega), List.getElem?_append_right (by simp; omega), List.getElem?_drop, List.getElem?_drop, Array.length_toList, show off + j + c2.size + (i - j - c2.size) = off + i by omega, show j + c2.size + (i - j - c2.size) = i by omega, hxi i hi]
      · rw [if_neg hi, List.getElem?_eq_none (by simp; omega)]
theorem Own.blkOf {w : World} {g off n c e size : Nat} {xs : List Value} (h : Own w 0 e size (.slice (some ⟨g, off, none⟩) n c) n xs) : ∃ cur, blk w g = some (.cells cur e (0, 0)) ∧ off + xs.length ≤ cur.size := by
  obtain ⟨hl, ⟨hv, _⟩ | ⟨g', off', cap, cur', hv, hb', hg, hnc, hcm, hs, ht⟩⟩ := h
  · cases hv
  · simp only [Value.slice.injEq, Option.some.injEq, Addr.mk.injEq, true_and] at hv
    obtain ⟨⟨rfl, rfl, _⟩, rfl⟩ := hv
    have hnm : n * size ≤ c * size := Nat.mul_le_mul_right _ hnc
    exact ⟨cur', hg, by omega⟩
theorem putOwnH {W w : World} {l l' : List Thing} {g off n c e size : Nat} {xs ys : List Value} (H : Heap W l w) {cur c2 : Array Value} (hb : blk w g = some (.cells cur e (0, 0))) {j : Nat} (hj : j + c2.size ≤ xs.length) (hy : xs.take j ++ c2.toList ++ xs.drop (j + c2.size) = ys)
    (r : Repl l (OwnT e size (.slice (some ⟨g, off, none⟩) n c) n xs) (OwnT e size (.slice (some ⟨g, off, none⟩) n c) n ys) l') : Heap W l' (setBlk w g (splice cur (off + j) c2)) :=
  H.upd r grown_setBlk (by subst hy; exact Own.put (H.ok _ r.mem) hb j c2 hj) (.inl rfl)
section
variable {ops : Array Oper} {rest : List Oper} {o : Oper} {a : Act} {w W : World} {l l' : List Thing} {Q : Exit → Act → World → Prop}
/-- s[i] = v, of a row. -/
theorem wpl_storeOwnR {T N e : Nat} {z : Array Value} {dst : Option Tmp} {ty : TypeId} {pos : String} {after : Array Edge} {guard : Option (Nat × Bool)} {x y : Operand} {g ad off n c size j : Nat} {c2 : Array Value} {xs ys : List Value} (RT : RowTy T N z) (hw : Region.wanted ⟨dst, .store T x y, ty, pos, after, guard⟩ (yielded ops a.tmps) = true) (hx : a.eval x = .pointer (some ⟨g, ad, none⟩)) (hy : a.eval y = .agg c2) (hc : Cells N c2)
    (H : Heap W l w) (m : OwnT e size (.slice (some ⟨g, off, none⟩) n c) n xs ∈ l) (hk : ad = off + j) (hj : j + N ≤ xs.length) (hys : xs.take j ++ c2.toList ++ xs.drop (j + N) = ys) (r : Repl l (OwnT e size (.slice (some ⟨g, off, none⟩) n c) n xs) (OwnT e size (.slice (some ⟨g, off, none⟩) n c) n ys) l')
    (h : ∀ w', Heap W l' w' → wpList Try.prog ops Q rest (a.put dst undef) w') : wpList Try.prog ops Q (⟨dst, .store T x y, ty, pos, after, guard⟩ :: rest) a w := by
  subst hk
  obtain ⟨cur, hb, hs⟩ := Own.blkOf (H.ok _ m)
  have hN := hc.1
  have h2 := putOwnH H (j := j) (c2 := c2) hb (by omega) (by rw [hN]; exact hys) r
  exact wpl_storeR RT hw hx hy hc hb (by omega) rfl ⟨⟨_, hb⟩, rfl⟩ (h _ h2)
theorem wpQ_loadRdR {T n : Nat} {z : Array Value} {dst : Option Tmp} {ty : TypeId} {pos : String} {after : Array Edge} {guard : Option (Nat × Bool)} {x : Operand} {b off : Nat} {K : Act → Prop} {H : Heap W l w} (RT : RowTy T n z) (hw : Region.wanted ⟨dst, .load T x, ty, pos, after, guard⟩ (yielded ops a.tmps) = true) (hx : a.eval x = .pointer (some ⟨b, off, none⟩))
    {o k : Nat} {xs : List Value} {c1 : Array Value} (R : ∀ w', Heap W l w' → Rd w' (some ⟨b, o, none⟩) xs) (hk : off = o + k) (hn : k + n ≤ xs.length) (h0 : 0 < n) (hv : ((xs.drop k).take n).toArray = c1)
    (h : wpQuiet Try.prog ops (fun w' => ∃ d, w' = H.any d) K rest (a.put dst (.agg c1))) : wpQuiet Try.prog ops (fun w' => ∃ d, w' = H.any d) K (⟨dst, .load T x, ty, pos, after, guard⟩ :: rest) a := by
  subst hk
  refine BigFrame.wpQuiet_want hw fun K hK => ⟨_, ?_, hK _ h⟩
  rintro _ ⟨d, rfl⟩
  obtain ⟨cs, t, f, hb, hs, he⟩ := rd_block (R _ (H.any_heap d)) hn h0
  unfold Oper.quietAt execOp
  simp only [hx, Sem.run_bind, run_loadR RT hb hs, he, hv]
  exact ⟨rfl, rfl⟩
end
theorem RowT.form0 {w : World} {e size n : Nat} {v : Value} {xs : List Value} (h : (RowT e size v n xs).ok w) : ∃ a c, v = .slice a n c ∧ n ≤ c ∧ c ≤ maxLen := by
  obtain ⟨a, c, e, _, h1, h2, _⟩ := (Own.ofRow h).rd
  exact ⟨a, c, e, h1, h2⟩
theorem Heap.rowRd {W w : World} {l : List Thing} {e size n c : Nat} {a : Option Addr} {xs : List Value} (H : Heap W l w) (m : RowT e size (.slice a n c) n xs ∈ l) : Rd w a xs := by
  obtain ⟨a', c', he, hr, _⟩ := (Own.ofRow (H.ok _ m)).rd
  simp only [Value.slice.injEq, true_and] at he
  obtain ⟨rfl, _⟩ := he
  exact hr
end Go.Proofs.Ytacglcpjbepfnaa

/- A book of pages, over a memory of things: Apart answers true, where each page's list lies apart. -/
namespace Go.Proofs.Ytacglcpjbepfnaa
open Go.RowKit
set_option linter.unusedSimpArgs false
set_option linter.unusedVariables false
/-- A page: what it is, and its list at three times. -/
structure PageT where
  ty : TypeId
  d : Value
  t0 : Thing
  t1 : Thing
  t2 : Thing
def PageT.v (p : PageT) : Value := .iface p.ty p.d
/-- A method of such a value: one that takes the value itself. -/
structure MethIs (ty : TypeId) (d : Value) (name : String) (f : FuncId) : Prop where
  meth : ∀ fuel w, (method (fuel + 1) ty d name).run Try.prog w = .ok (f, d) w
  enter : ∀ args w, (callFunc f args).run Try.prog w = .ok (.enter f args) w
structure PageOk (p : PageT) : Prop where
  write : ∃ f, MethIs p.ty p.d "countinghouse/countinghouselaw01.write" f ∧ ∀ (W : World) (l : List Thing) (w : World), Heap W (p.t0 :: l) w → Calls Try.prog f #[p.d] w fun e w' => e = .returned (.tuple #[]) ∧ Heap W (p.t1 :: l) w'
  behind : ∃ f, MethIs p.ty p.d "countinghouse/countinghouselaw01.writeBehind" f ∧ ∀ (W : World) (l : List Thing) (w : World), Heap W (p.t1 :: l) w → Calls Try.prog f #[p.d] w fun e w' => e = .returned (.tuple #[]) ∧ Heap W (p.t2 :: l) w'
  stands : ∃ f, MethIs p.ty p.d "countinghouse/countinghouselaw01.stands" f ∧ ∀ (W : World) (l : List Thing) (w : World), Heap W (p.t2 :: l) w → Calls Try.prog f #[p.d] w fun e w' => e = .returned (.bool true) ∧ Heap W (p.t2 :: l) w'
theorem cell_pages : CellTy 58 := ⟨⟨_, Try.underlying58, rfl⟩, by kernel_rfl⟩
/-- A book. -/
abbrev bookC (v : Value) : Array Value := #[v]
theorem bookC_g (v : Value) : (bookC v)[0]? = some v := rfl
abbrev BkT (kb : Nat) (v : Value) : Thing := Cel kb (bookC v) 60
abbrev PgsT (v : Value) (n : Nat) (vs : List Value) : Thing := RowT 141 1 v n vs
structure ApLoop (W : World) (l : List Thing) (kb : Nat) (v : Value) (vs : List Value) (n : Nat) (ts : Nat → List Thing) (i : Value) (wr : World) : Prop where
  out : ∃ k, i = .int .i64 ((k : Nat) : Int) ∧ k ≤ n ∧ Heap W (BkT kb v :: PgsT v n vs :: (ts k ++ l)) wr
theorem mid_perm {x : Thing} {A B l : List Thing} {b p : Thing} : (b :: p :: (A ++ x :: B ++ l)).Perm (x :: b :: p :: (A ++ B ++ l)) := by
  have h : (A ++ x :: B ++ l).Perm (x :: (A ++ B ++ l)) := by
    rw [List.append_assoc, List.append_assoc, List.cons_append]; exact List.perm_middle
  exact (List.Perm.cons _ (List.Perm.cons _ h)).trans ((List.Perm.cons _ (.swap _ _ _)).trans (.swap _ _ _))
section
variable {W w : World} {l : List Thing}
set_option maxRecDepth 100000
set_option maxHeartbeats 4000000
theorem apart_H (kb : Nat) (a : Option Addr) (n c : Nat) (ps : List PageT) (hn : ps.length = n) (h120 : n ≤ 120) (hok : ∀ p ∈ ps, PageOk p) (H : Heap W (BkT kb (.slice a n c) :: PgsT (.slice a n c) n (ps.map PageT.v) :: (ps.map PageT.t0 ++ l)) w) :
    Calls Try.prog 45 #[.pointer (some ⟨kb, 0, none⟩)] w fun e w' => e = .returned (.bool true) ∧ Heap W (BkT kb (.slice a n c) :: PgsT (.slice a n c) n (ps.map PageT.v) :: (ps.map PageT.t2 ++ l)) w' := by
  have HN := Lib.hid hn
  have HO := Lib.hid hok
  clear hn hok
  go_enter Try.func45, Try.ntmps45
  go_wp2_with (first | go_skip | ((with_reducible show wpList _ _ _ (_ :: _) _ _); (with_reducible apply wpl_loadCH); (· exact cell_pages); (· rfl); (· rfl); (· exact H); (· (repeat (first | (with_reducible exact List.mem_cons_self) | with_reducible apply List.mem_cons_of_mem))); (· exact bookC_g _); (simp only [Act.put, List.setIfInBounds_toArray, List.set_cons_zero, List.set_cons_succ])))
  have H0 := H
  clear H
  go_loopw [3] (fun i wr => ApLoop W l kb (.slice a n c) (ps.map PageT.v) n (fun k => (ps.take k).map PageT.t1 ++ (ps.drop k).map PageT.t0) i wr) (fun i _ => n - (intOf i).toNat)
  case atStart => exact ⟨0, rfl, by omega, by simpa using H0⟩
  case round =>
    obtain ⟨k, rfl, hk, H'⟩ := hrel.out
    clear H0 hrel
    have H := H'
    clear H'
    by_cases hlt : k < n
    · have hkp : k < ps.length := by rw [HN.out]; exact hlt
      have hpo := HO.out ps[k] (List.getElem_mem hkp)
      have hv : ((ps.map PageT.v))[k]? = some (ps[k].v) := by rw [List.getElem?_map, List.getElem?_eq_getElem hkp]; rfl
      have e1 : ps.drop k = ps[k] :: ps.drop (k + 1) := List.drop_eq_getElem_cons hkp
      have e2 : ps.take (k + 1) = ps.take k ++ [ps[k]] := by rw [List.take_add_one, List.getElem?_eq_getElem hkp]; rfl
      have HE := Lib.hid (And.intro e1 e2)
      clear e1 e2
      have hrd := H.rowRd (List.mem_cons_of_mem _ List.mem_cons_self)
      obtain ⟨pa, po, rfl, hpc⟩ := hrd k (by rw [List.length_map]; exact hkp)
      rw [show (ps.map PageT.v)[k]'(by rw [List.length_map]; exact hkp) = ps[k].v from List.getElem_map ..] at hpc
      clear hrd hv
      generalize ps[k] = p at *
      obtain ⟨ty, d, t0, t1, t2⟩ := p
      obtain ⟨f, hm, hcall⟩ := hpo.write
      have hm1 := hm.meth
      have hm2 := hm.enter
      simp only [PageT.v] at hpc hm1
      clear hm
      go_wp2_with (first | go_skip | ((with_reducible show wpList _ _ _ (_ :: _) _ _); (with_reducible apply wpl_loadCH); (· exact cell_pages); (· rfl); (· rfl); (· exact H); (· (repeat (first | (with_reducible exact List.mem_cons_self) | with_reducible apply List.mem_cons_of_mem))); (· exact bookC_g _); (simp only [Act.put, List.setIfInBounds_toArray, List.set_cons_zero, List.set_cons_succ])))
      refine (hcall W _ _ (H.perm (by rw [HE.out.1, List.map_cons]; exact mid_perm))).mono ?_
      clear H hcall hm1 hm2
      rintro e w1 ⟨rfl, H⟩
      go_wp2_with (go_skip)
      refine ⟨?_, ?measure⟩
      · refine ⟨⟨k + 1, by go_num, by omega, ?_⟩⟩
        rw [HE.out.2, List.map_append, List.map_cons, List.map_nil]
        have h2 := H.perm (mid_perm (A := (ps.take k).map PageT.t1) (B := (ps.drop (k + 1)).map PageT.t0) (l := l)).symm
        rwa [List.append_assoc (List.map PageT.t1 (List.take k ps)) [_] _]
      case measure => simp [intOf]; omega
    · obtain rfl : n = k := by omega
      rw [List.take_of_length_le (by rw [HN.out]; exact Nat.le_refl _), List.drop_of_length_le (by rw [HN.out]; exact Nat.le_refl _), List.map_nil, List.append_nil] at H
      go_wp2_with (first | go_skip | ((with_reducible show wpList _ _ _ (_ :: _) _ _); (with_reducible apply wpl_loadCH); (· exact cell_pages); (· rfl); (· rfl); (· exact H); (· (repeat (first | (with_reducible exact List.mem_cons_self) | with_reducible apply List.mem_cons_of_mem))); (· exact bookC_g _); (simp only [Act.put, List.setIfInBounds_toArray, List.set_cons_zero, List.set_cons_succ])))
      have H0 := H
      clear H
      go_loopw [4] (fun i wr => ApLoop W l kb (.slice a n c) (ps.map PageT.v) n (fun k => (ps.take k).map PageT.t2 ++ (ps.drop k).map PageT.t1) i wr) (fun i _ => n - (intOf i).toNat)
      case atStart => exact ⟨0, rfl, by omega, by simpa using H0⟩
      case round =>
        obtain ⟨k, rfl, hk, H'⟩ := hrel.out
        clear H0 hrel
        have H := H'
        clear H'
        by_cases hlt : k < n
        · have hkp : k < ps.length := by rw [HN.out]; exact hlt
          have hpo := HO.out ps[k] (List.getElem_mem hkp)
          have hv : ((ps.map PageT.v))[k]? = some (ps[k].v) := by rw [List.getElem?_map, List.getElem?_eq_getElem hkp]; rfl
          have e1 : ps.drop k = ps[k] :: ps.drop (k + 1) := List.drop_eq_getElem_cons hkp
          have e2 : ps.take (k + 1) = ps.take k ++ [ps[k]] := by rw [List.take_add_one, List.getElem?_eq_getElem hkp]; rfl
          have HE := Lib.hid (And.intro e1 e2)
          clear e1 e2
          have hrd := H.rowRd (List.mem_cons_of_mem _ List.mem_cons_self)
          obtain ⟨pa, po, rfl, hpc⟩ := hrd k (by rw [List.length_map]; exact hkp)
          rw [show (ps.map PageT.v)[k]'(by rw [List.length_map]; exact hkp) = ps[k].v from List.getElem_map ..] at hpc
          clear hrd hv
          generalize ps[k] = p at *
          obtain ⟨ty, d, t0, t1, t2⟩ := p
          obtain ⟨f, hm, hcall⟩ := hpo.behind
          have hm1 := hm.meth
          have hm2 := hm.enter
          simp only [PageT.v] at hpc hm1
          clear hm
          go_wp2_with (first | go_skip | ((with_reducible show wpList _ _ _ (_ :: _) _ _); (with_reducible apply wpl_loadCH); (· exact cell_pages); (· rfl); (· rfl); (· exact H); (· (repeat (first | (with_reducible exact List.mem_cons_self) | with_reducible apply List.mem_cons_of_mem))); (· exact bookC_g _); (simp only [Act.put, List.setIfInBounds_toArray, List.set_cons_zero, List.set_cons_succ])))
          refine (hcall W _ _ (H.perm (by rw [HE.out.1, List.map_cons]; exact mid_perm))).mono ?_
          clear H hcall hm1 hm2
          rintro e w1 ⟨rfl, H⟩
          go_wp2_with (go_skip)
          refine ⟨?_, ?measure⟩
          · refine ⟨⟨k + 1, by go_num, by omega, ?_⟩⟩
            rw [HE.out.2, List.map_append, List.map_cons, List.map_nil]
            have h2 := H.perm (mid_perm (A := (ps.take k).map PageT.t2) (B := (ps.drop (k + 1)).map PageT.t1) (l := l)).symm
            rwa [List.append_assoc (List.map PageT.t2 (List.take k ps)) [_] _]
          case measure => simp [intOf]; omega
        · obtain rfl : n = k := by omega
          rw [List.take_of_length_le (by rw [HN.out]; exact Nat.le_refl _), List.drop_of_length_le (by rw [HN.out]; exact Nat.le_refl _), List.map_nil, List.append_nil] at H
          go_wp2_with (first | go_skip | ((with_reducible show wpList _ _ _ (_ :: _) _ _); (with_reducible apply wpl_loadCH); (· exact cell_pages); (· rfl); (· rfl); (· exact H); (· (repeat (first | (with_reducible exact List.mem_cons_self) | with_reducible apply List.mem_cons_of_mem))); (· exact bookC_g _); (simp only [Act.put, List.setIfInBounds_toArray, List.set_cons_zero, List.set_cons_succ])))
          have H0 := H
          clear H
          go_loopw [5] (fun i wr => ApLoop W l kb (.slice a n c) (ps.map PageT.v) n (fun k => (ps.take k).map PageT.t2 ++ (ps.drop k).map PageT.t2) i wr) (fun i _ => n - (intOf i).toNat)
          case atStart => exact ⟨0, rfl, by omega, by simpa using H0⟩
          case round =>
            obtain ⟨k, rfl, hk, H'⟩ := hrel.out
            clear H0 hrel
            have H := H'
            clear H'
            by_cases hlt : k < n
            · have hkp : k < ps.length := by rw [HN.out]; exact hlt
              have hpo := HO.out ps[k] (List.getElem_mem hkp)
              have hv : ((ps.map PageT.v))[k]? = some (ps[k].v) := by rw [List.getElem?_map, List.getElem?_eq_getElem hkp]; rfl
              have e1 : ps.drop k = ps[k] :: ps.drop (k + 1) := List.drop_eq_getElem_cons hkp
              have e2 : ps.take (k + 1) = ps.take k ++ [ps[k]] := by rw [List.take_add_one, List.getElem?_eq_getElem hkp]; rfl
              have HE := Lib.hid (And.intro e1 e2)
              clear e1 e2
              have hrd := H.rowRd (List.mem_cons_of_mem _ List.mem_cons_self)
              obtain ⟨pa, po, rfl, hpc⟩ := hrd k (by rw [List.length_map]; exact hkp)
              rw [show (ps.map PageT.v)[k]'(by rw [List.length_map]; exact hkp) = ps[k].v from List.getElem_map ..] at hpc
              clear hrd hv
              generalize ps[k] = p at *
              obtain ⟨ty, d, t0, t1, t2⟩ := p
              obtain ⟨f, hm, hcall⟩ := hpo.stands
              have hm1 := hm.meth
              have hm2 := hm.enter
              simp only [PageT.v] at hpc hm1
              clear hm
              go_wp2_with (first | go_skip | ((with_reducible show wpList _ _ _ (_ :: _) _ _); (with_reducible apply wpl_loadCH); (· exact cell_pages); (· rfl); (· rfl); (· exact H); (· (repeat (first | (with_reducible exact List.mem_cons_self) | with_reducible apply List.mem_cons_of_mem))); (· exact bookC_g _); (simp only [Act.put, List.setIfInBounds_toArray, List.set_cons_zero, List.set_cons_succ])))
              refine (hcall W _ _ (H.perm (by rw [HE.out.1, List.map_cons]; exact mid_perm))).mono ?_
              clear H hcall hm1 hm2
              rintro e w1 ⟨rfl, H⟩
              go_wp2_with (go_skip)
              refine ⟨?_, ?measure⟩
              · refine ⟨⟨k + 1, by go_num, by omega, ?_⟩⟩
                rw [HE.out.2, List.map_append, List.map_cons, List.map_nil]
                have h2 := H.perm (mid_perm (A := (ps.take k).map PageT.t2) (B := (ps.drop (k + 1)).map PageT.t2) (l := l)).symm
                rwa [List.append_assoc (List.map PageT.t2 (List.take k ps)) [_] _]
              case measure => simp [intOf]; omega
            · obtain rfl : n = k := by omega
              rw [List.take_of_length_le (by rw [HN.out]; exact Nat.le_refl _), List.drop_of_length_le (by rw [HN.out]; exact Nat.le_refl _), List.map_nil, List.append_nil] at H
              go_wp2_with (first | go_skip | ((with_reducible show wpList _ _ _ (_ :: _) _ _); (with_reducible apply wpl_loadCH); (· exact cell_pages); (· rfl); (· rfl); (· exact H); (· (repeat (first | (with_reducible exact List.mem_cons_self) | with_reducible apply List.mem_cons_of_mem))); (· exact bookC_g _); (simp only [Act.put, List.setIfInBounds_toArray, List.set_cons_zero, List.set_cons_succ])))
              go_ret
              exact ⟨rfl, H⟩
end
/-- The book's pages. -/
theorem slPage : SlTy Try.prog 58 141 1 16 .nilIface := slTy_mk Try.underlying58 (by kernel_rfl) rfl (by decide)
theorem bs_page : Try.prog.underlying 58 = some (.slice 141) ∧ (Try.prog.info? 141).map (fun i => (i.size, i.zero)) = some (1, some .nilIface) := ⟨Try.underlying58, by kernel_rfl⟩
section
variable {W w : World} {l : List Thing}
set_option maxRecDepth 100000
set_option maxHeartbeats 4000000
theorem number_H (kb : Nat) (a : Option Addr) (n c : Nat) (hn : n ≤ 1000000) (m : BkT kb (.slice a n c) ∈ l) : AnsH W l 96 #[.pointer (some ⟨kb, 0, none⟩)] (.int .i64 ((n : Int) + 1)) := by
  intro w H
  go_enter Try.func96, Try.ntmps96
  go_wp2_with (first | go_skip | ((with_reducible show wpList _ _ _ (_ :: _) _ _); (with_reducible apply wpl_loadCH); (· exact cell_pages); (· rfl); (· rfl); (· exact H); (· exact m); (· exact bookC_g _); (simp only [Act.put, List.setIfInBounds_toArray, List.set_cons_zero, List.set_cons_succ])))
  go_ret
  exact ⟨rfl, H⟩
/-- A book with its pages so far, and their lists. -/
def Book (W : World) (l : List Thing) (kb : Nat) (ps : List PageT) (w : World) : Prop := ∃ a c, Heap W (BkT kb (.slice a ps.length c) :: PgsT (.slice a ps.length c) ps.length (ps.map PageT.v) :: (ps.map PageT.t0 ++ l)) w ∧ ∀ p ∈ ps, PageOk p
theorem Book.new {kb : Nat} (H : Heap W (BkT kb (.slice none 0 0) :: l) w) : Book W l kb [] w := ⟨none, 0, (H.nilRow _ _).perm (.swap _ _ _), by simp⟩
theorem Book.apart {kb : Nat} {ps : List PageT} (B : Book W l kb ps w) (hn : ps.length ≤ 120) : Calls Try.prog 45 #[.pointer (some ⟨kb, 0, none⟩)] w fun e w' => e = .returned (.bool true) ∧ Heap W l w' := by
  obtain ⟨a, c, H, hok⟩ := B
  refine (apart_H kb a ps.length c ps rfl hn hok H).mono ?_
  rintro e w' ⟨rfl, H⟩
  refine ⟨rfl, ?_⟩
  have H2 := H.tail.tail
  have key : ∀ (l1 : List Thing), Heap W (l1 ++ l) w' → Heap W l w' := by
    intro l1
    induction l1 with
    | nil => exact fun h => h
    | cons x l1 ih => exact fun h => ih h.tail
  exact key _ H2
end
end Go.Proofs.Ytacglcpjbepfnaa

/- Pages of rows: what is written where. -/
namespace Go.Proofs.Ytacglcpjbepfnaa
open Go.RowKit
def bkPut (xs : List Value) (k K : Nat) (m : Array Value) : List Value := xs.take (k * K) ++ m.toList ++ xs.drop (k * K + K)
theorem bkPut_len {xs : List Value} {k K : Nat} {m : Array Value} (hm : m.size = K) (h : k * K + K ≤ xs.length) : (bkPut xs k K m).length = xs.length := by
  unfold bkPut
  simp [hm]
  omega
theorem bkPut_at {xs : List Value} {k K : Nat} {m : Array Value} (hm : m.size = K) (h : k * K + K ≤ xs.length) : ((bkPut xs k K m).drop (k * K)).take K = m.toList := by
  unfold bkPut
  have h1 : (xs.take (k * K)).length = k * K := by simp; omega
  rw [List.append_assoc]
  conv => lhs; rw [← h1]
  rw [h1, List.drop_append_of_le_length (by omega), List.drop_of_length_le (by omega), List.nil_append]
  have h2 : m.toList.length = K := by simpa using hm
  rw [← h2, List.take_left]
theorem bkPut_off {xs : List Value} {k K i : Nat} {m : Array Value} (hm : m.size = K) (h : k * K + K ≤ xs.length) (hi : i ≠ k) : ((bkPut xs k K m).drop (i * K)).take K = (xs.drop (i * K)).take K := by
  unfold bkPut
  have h1 : (xs.take (k * K)).length = k * K := by simp; omega
  have h2 : m.toList.length = K := by simpa using hm
  apply List.ext_getElem?
  intro j
  rw [List.getElem?_take, List.getElem?_take]
  by_cases hj : j < K
  · rw [if_pos hj, if_pos hj, List.getElem?_drop, List.getElem?_drop]
    rcases Nat.lt_or_gt_of_ne hi with hlt | hgt
    · have h3 : i * K + K ≤ k * K := by
        have := Nat.mul_le_mul_right K (show i + 1 ≤ k from hlt)
        rw [Nat.succ_mul] at this
        exact this
      rw [List.append_assoc, List.getElem?_append_left (by omega), List.getElem?_take, if_pos (by omega)]
    · have h3 : k * K + K ≤ i * K := by
        have := Nat.mul_le_mul_right K (show k + 1 ≤ i from hgt)
        rw [Nat.succ_mul] at this
        exact this
      rw [List.append_assoc, List.getElem?_append_right (by omega), List.getElem?_append_right (by omega), List.getElem?_drop]
      congr 1
      omega
  · rw [if_neg hj, if_neg hj]
def MarksR (K : Nat) (m : Array Value) (lo hi : Nat) (xs : List Value) : Prop := ∀ i, lo ≤ i → i < hi → (xs.drop (i * K)).take K = m.toList
theorem MarksR.step {K : Nat} {m : Array Value} {lo k : Nat} {xs : List Value} (h : MarksR K m lo k xs) (hm : m.size = K) (hk : k * K + K ≤ xs.length) : MarksR K m lo (k + 1) (bkPut xs k K m) := by
  intro i h1 h2
  by_cases e : i = k
  · subst e; exact bkPut_at hm hk
  · rw [bkPut_off hm hk e]; exact h i h1 (by omega)
theorem MarksR.off {K : Nat} {m m2 : Array Value} {lo hi k : Nat} {xs : List Value} (h : MarksR K m lo hi xs) (hm : m2.size = K) (hk : k * K + K ≤ xs.length) (hh : hi ≤ k) : MarksR K m lo hi (bkPut xs k K m2) := by
  intro i h1 h2
  rw [bkPut_off hm hk (by omega)]
  exact h i h1 h2
def browR (sl : Value) (m b : Array Value) : Array Value := (sl :: (m.toList ++ b.toList)).toArray
theorem browR_g0 (sl : Value) (m b : Array Value) : (browR sl m b)[0]? = some sl := rfl
theorem browR_sz {sl : Value} {m b : Array Value} {K : Nat} (hm : m.size = K) (hb : b.size = K) : (browR sl m b).size = 1 + K + K := by
  unfold browR
  simp [hm, hb]
  omega
theorem browR_g1 {sl : Value} {m b : Array Value} {K : Nat} (hm : m.size = K) : (browR sl m b).extract 1 (1 + K) = m := by
  unfold browR
  apply Array.ext'
  have h2 : m.toList.length = K := by simpa using hm
  simp only [List.extract_toArray, List.extract_eq_take_drop, List.drop_succ_cons, List.drop_zero]
  rw [show 1 + K - 1 = m.toList.length by omega, List.take_left]
theorem browR_g2 {sl : Value} {m b : Array Value} {K : Nat} (hm : m.size = K) (hb : b.size = K) : (browR sl m b).extract (1 + K) (1 + K + K) = b := by
  unfold browR
  apply Array.ext'
  have h2 : m.toList.length = K := by simpa using hm
  have h3 : b.toList.length = K := by simpa using hb
  simp only [List.extract_toArray, List.extract_eq_take_drop]
  rw [show 1 + K = (sl :: m.toList).length by simp [hm]; omega, ← List.cons_append, List.drop_left, show (sl :: m.toList).length + K - (sl :: m.toList).length = b.toList.length by omega, List.take_length]
theorem mul_slot {k c K : Nat} (h : k < c) : k * K + K ≤ c * K := by
  have := Nat.mul_le_mul_right K (show k + 1 ≤ c from h)
  rw [Nat.succ_mul] at this
  exact this
structure GoodR (K : Nat) (T : TypeId) (m : Array Value) : Prop where
  cells : Cells K m
  neq : ∀ w, (binOp .neq T (.agg m) (.agg m)).run Try.prog w = .ok (.bool false) w
theorem GoodR.sz {K : Nat} {T : TypeId} {m : Array Value} (h : GoodR K T m) : m.size = K := h.cells.1
end Go.Proofs.Ytacglcpjbepfnaa

/- What books need of rats: May, Compare; they stand in one order. (Printed by gen/ratb.py out of the texts of chapter 02.) -/
namespace Go.Proofs.Ytacglcpjbepfnaa
open Go.RowKit
set_option linter.unusedSimpArgs false
set_option linter.unusedVariables false
/-- Below, and no draw is undone. -/
structure Blw (B : Nat) (w w' : World) : Prop extends Below B w w' where
  dr : w.drawn ≤ w'.drawn
theorem Blw.refl (B : Nat) (w : World) : Blw B w w := ⟨Below.refl B w, Nat.le_refl _⟩
theorem Blw.trans {B : Nat} {a b c : World} (h : Blw B a b) (k : Blw B b c) : Blw B a c := ⟨h.toBelow.trans k.toBelow, Nat.le_trans h.dr k.dr⟩
theorem Blw.mono {B B' : Nat} {w w' : World} (h : Blw B w w') (hB : B' ≤ B) : Blw B' w w' := ⟨h.toBelow.mono hB, h.dr⟩
theorem Blw.drew {B : Nat} {a w : World} (h : Blw B a w) : Blw B a w.drew := ⟨h.toBelow.drew, Nat.le_succ_of_le h.dr⟩
theorem Blw.alloc {B : Nat} {a w : World} (h : Blw B a w) (hB : B ≤ w.heap.size) (o : Obj) : Blw B a (w.alloc o) := ⟨h.toBelow.alloc hB o, h.dr⟩
theorem Blw.setCell {B : Nat} {a w : World} (h : Blw B a w) {p : Addr} (hp : B ≤ p.block) (u : Value) : Blw B a (w.setCell p u) := ⟨h.toBelow.setCell hp u, by have := h.dr; simpa [World.setCell] using this⟩
theorem blw_drewN {B : Nat} {a w : World} (h : Blw B a w) (n : Nat) : Blw B a (w.drewN n) := ⟨below_drewN h.toBelow n, Nat.le_trans h.dr (Nat.le_add_right _ _)⟩
theorem cell_of {w : World} {b : Nat} {cs : Array Value} {e : TypeId} {fz : Nat × Nat} (h : w.heap[b]? = some (.cells cs e fz)) (i : Nat) (v : Value) (hi : cs[i]? = some v) : w.cell? ⟨b, i, none⟩ = some v := by
  simp [World.cell?, h, hi]
theorem blw_trans2 {w w1 w2 : World} (h1 : Blw w.heap.size w w1) (h2 : Blw w1.heap.size w1 w2) : Blw w.heap.size w w2 := h1.trans (h2.mono h1.size)
theorem run_max1 {w : World} (ts : Array TypeId) (t : TypeId) (k k' : IntKind) (x y : Int) : (Builtin.max_ ts t #[.int k x, .int k' y]).run Try.prog w = .ok (.int k (max x y)) w := by
  rw [run_max_int2]; congr 2; rw [Int.max_def]; split <;> split <;> omega
attribute [local go_sem high] run_max1

open Go.RowKit

def Two (w : World) (b : Nat) (t : TypeId) (p q : Value) : Prop := w.heap[b]? = some (.cells #[p, q] t (0, 0))
theorem Two.new (w : World) (t : TypeId) (p q : Value) : Two (w.alloc (.cells #[p, q] t)) w.heap.size t p q := heap_alloc_new w _
theorem Two.lt {w : World} {b : Nat} {t : TypeId} {p q : Value} (h : Two w b t p q) : b < w.heap.size := (Array.getElem?_eq_some_iff.1 h).1
theorem Two.below {w w' : World} {B b : Nat} {t : TypeId} {p q : Value} (h : Two w b t p q) (hb : Blw B w w') (hB : b < B) : Two w' b t p q := by
  unfold Two; rw [hb.block b hB]; exact h
theorem Two.on {w w' : World} {b : Nat} {t : TypeId} {p q : Value} (h : Two w b t p q) (hb : Blw w.heap.size w w') : Two w' b t p q := h.below hb h.lt
theorem Two.alloc {w : World} {b : Nat} {t : TypeId} {p q : Value} (h : Two w b t p q) (o : Obj) : Two (w.alloc o) b t p q := h.on ((Blw.refl _ w).alloc (Nat.le_refl _) _)
theorem Two.c0 {w : World} {b : Nat} {t : TypeId} {p q : Value} (h : Two w b t p q) : w.cell? ⟨b, 0, none⟩ = some p := cell_of h 0 p rfl
theorem Two.c1 {w : World} {b : Nat} {t : TypeId} {p q : Value} (h : Two w b t p q) : w.cell? ⟨b, 1, none⟩ = some q := cell_of h 1 q rfl
theorem Two.f0 {w : World} {b : Nat} {t : TypeId} {p q : Value} (h : Two w b t p q) : w.frozen? ⟨b, 0, none⟩ = false := frozen_of_row w b 0 _ _ h
theorem Two.f1 {w : World} {b : Nat} {t : TypeId} {p q : Value} (h : Two w b t p q) : w.frozen? ⟨b, 1, none⟩ = false := frozen_of_row w b 1 _ _ h
theorem Two.set0 {w : World} {b : Nat} {t : TypeId} {p q : Value} (h : Two w b t p q) (x : Value) : Two (w.setCell ⟨b, 0, none⟩ x) b t x q := Joins.block_setCell (i := 0) h x
theorem Two.set1 {w : World} {b : Nat} {t : TypeId} {p q : Value} (h : Two w b t p q) (x : Value) : Two (w.setCell ⟨b, 1, none⟩ x) b t p x := Joins.block_setCell (i := 1) h x
/-- What is held of a block of two cells while a region runs in whatever order. -/
def HeldTwo (W : World) (b : Nat) (t : TypeId) (p q : Value) (w : World) : Prop := w.cell? ⟨b, 0, none⟩ = some p ∧ w.cell? ⟨b, 1, none⟩ = some q ∧ Two w b t p q ∧ Blw W.heap.size W w
theorem HeldTwo.mk {W w : World} {b : Nat} {t : TypeId} {p q : Value} (h : Two w b t p q) (hb : Blw W.heap.size W w) : w.cell? ⟨b, 0, none⟩ = some p ∧ w.cell? ⟨b, 1, none⟩ = some q ∧ Two w b t p q ∧ Blw W.heap.size W w := ⟨h.c0, h.c1, h, hb⟩
theorem HeldTwo.next {W w w' : World} {b : Nat} {t : TypeId} {p q : Value} (h : w.cell? ⟨b, 0, none⟩ = some p ∧ w.cell? ⟨b, 1, none⟩ = some q ∧ Two w b t p q ∧ Blw W.heap.size W w) (hb : Blw w.heap.size w w') : w'.cell? ⟨b, 0, none⟩ = some p ∧ w'.cell? ⟨b, 1, none⟩ = some q ∧ Two w' b t p q ∧ Blw W.heap.size W w' :=
  HeldTwo.mk (h.2.2.1.on hb) (h.2.2.2.trans (hb.mono h.2.2.2.size))
theorem HeldTwo.first (w : World) (t : TypeId) (p q : Value) : (w.alloc (.cells #[p, q] t)).drew.cell? ⟨w.heap.size, 0, none⟩ = some p ∧ (w.alloc (.cells #[p, q] t)).drew.cell? ⟨w.heap.size, 1, none⟩ = some q ∧ Two (w.alloc (.cells #[p, q] t)).drew w.heap.size t p q ∧ Blw w.heap.size w (w.alloc (.cells #[p, q] t)).drew :=
  HeldTwo.mk ((Two.new w t p q).on (Blw.refl _ _).drew) (((Blw.refl _ w).alloc (Nat.le_refl _) _).drew)


open Go.RowKit

theorem gcd_step {a b : Int} (ha : 0 ≤ a) (hb : 0 < b) : Int.gcd b (a % b) = Int.gcd a b := by
  obtain ⟨A, rfl⟩ : ∃ A : Nat, a = A := ⟨a.toNat, by omega⟩
  obtain ⟨B, rfl⟩ : ∃ A : Nat, b = A := ⟨b.toNat, by omega⟩
  rw [← Int.natCast_emod]
  show Nat.gcd B (A % B) = Nat.gcd A B
  rw [Nat.gcd_comm A B, Nat.gcd_rec B A, Nat.gcd_comm]
set_option maxHeartbeats 1000000 in
theorem divisor_any (a b : Int) (w : World) (a0 : 0 ≤ a) (a1 : a ≤ 9223372036854775807) (b0 : 0 ≤ b) (b1 : b ≤ 9223372036854775807) :
    Calls Try.prog 124 #[.int .i64 a, .int .i64 b] w fun e w' => e = .returned (.int .i64 (Int.gcd a b : Int)) ∧ Blw w.heap.size w w' := by
  go_enter Try.func124, Try.ntmps124
  go_wp2_with fail
  refine wp_scope_jumps 0 (fun a' w' => Blw w.heap.size w w' ∧ ∃ (x y : Int) (u4 u5 u6 u7 u8 u9 u10 u11 : Value), a' = { tmps := #[.int .i64 x, .int .i64 y, undef, undef, u4, u5, u6, u7, u8, u9, u10, u11], defers := [] } ∧ 0 ≤ x ∧ x ≤ 9223372036854775807 ∧ 0 ≤ y ∧ y ≤ 9223372036854775807 ∧ Int.gcd x y = Int.gcd a b) (fun a' _ => (intOf (a'.tmps.getD 1 undef)).toNat) rfl ?_ ?_
  · go_wp2
    go_step3
    by_cases hz : b = 0
    · subst hz
      go_wp2_with fail
      simp only [Exit.jump]
      go_ret
      refine ⟨?_, Blw.refl _ _⟩
      rw [Int.gcd_zero_right, show (a.natAbs : Int) = a by omega]
      rfl
    · have hb : (b == 0) = false := by simpa using hz
      have hnn := Int.emod_nonneg a hz
      have hlt := Int.emod_lt_of_pos a (show 0 < b by omega)
      go_wp2_with fail
      go_quiet (fail)
      go_wp2_with fail
      go_step3
      exact ⟨rfl, blw_drewN (Blw.refl _ _) _, b, a % b, _, _, _, _, _, _, _, _, rfl, b0, b1, hnn, by omega, gcd_step a0 (by omega)⟩
  · rintro a' w' ⟨hbl, x, y, u4, u5, u6, u7, u8, u9, u10, u11, rfl, x0, x1, y0, y1, hg⟩
    have HG := Lib.hid hg
    have HB := Lib.hid hbl
    clear hg hbl
    by_cases hz : y = 0
    · subst hz
      go_wp2_with fail
      simp only [Exit.jump]
      go_ret
      refine ⟨?_, HB.out⟩
      rw [← HG.out, Int.gcd_zero_right, show (x.natAbs : Int) = x by omega]
      rfl
    · have hb : (y == 0) = false := by simpa using hz
      have hnn := Int.emod_nonneg x hz
      have hlt := Int.emod_lt_of_pos x (show 0 < y by omega)
      go_wp2_with fail
      go_quiet (fail)
      go_wp2_with fail
      go_step3
      refine ⟨rfl, ⟨blw_drewN HB.out _, y, x % y, _, _, _, _, _, _, _, _, rfl, y0, y1, hnn, by omega, by rw [gcd_step x0 (by omega)]; exact HG.out⟩, ?_⟩
      simp [intOf]
      omega

def ratV (n d : Int) : Value := .agg #[.int .i64 n, .int .i64 d]
/-- Both terms are positive. -/
def PosT (n d : Int) : Prop := 1 ≤ n ∧ 1 ≤ d
instance (n d : Int) : Decidable (PosT n d) := by unfold PosT; infer_instance
def lowN (n d : Int) : Int := if PosT n d then n / (Int.gcd n d : Int) else 0
def lowD (n d : Int) : Int := if PosT n d then d / (Int.gcd n d : Int) else 0
theorem gcd_pos {n d : Int} (h : PosT n d) : 1 ≤ (Int.gcd n d : Int) := by
  have : 0 < Int.gcd n d := Int.gcd_pos_of_ne_zero_left _ (by unfold PosT at h; omega)
  omega
theorem low_bounds {n d : Int} (n1 : n ≤ 9223372036854775807) (d1 : d ≤ 9223372036854775807) : 0 ≤ lowN n d ∧ lowN n d ≤ 9223372036854775807 ∧ 0 ≤ lowD n d ∧ lowD n d ≤ 9223372036854775807 := by
  unfold lowN lowD
  by_cases h : PosT n d
  · rw [if_pos h, if_pos h]
    have hg := gcd_pos h
    unfold PosT at h
    have h1 := Int.ediv_le_self (a := n) (Int.gcd n d : Int) (by omega)
    have h2 := Int.ediv_le_self (a := d) (Int.gcd n d : Int) (by omega)
    have h3 : 0 ≤ n / (Int.gcd n d : Int) := Int.ediv_nonneg (by omega) (by omega)
    have h4 : 0 ≤ d / (Int.gcd n d : Int) := Int.ediv_nonneg (by omega) (by omega)
    omega
  · rw [if_neg h, if_neg h]; omega
set_option maxHeartbeats 1000000 in
theorem least_any (n d : Int) (w : World) (n0 : -9223372036854775808 ≤ n) (n1 : n ≤ 9223372036854775807) (d0 : -9223372036854775808 ≤ d) (d1 : d ≤ 9223372036854775807) :
    Calls Try.prog 104 #[.int .i64 n, .int .i64 d] w fun e w' => e = .returned (ratV (lowN n d) (lowD n d)) ∧ Blw w.heap.size w w' := by
  by_cases h : PosT n d
  · have e1 : lowN n d = n / (Int.gcd n d : Int) := if_pos h
    have e2 : lowD n d = d / (Int.gcd n d : Int) := if_pos h
    have hg := gcd_pos h
    have hb := low_bounds n1 d1 (n := n) (d := d)
    have k1 : decide (n < 1) = false := by unfold PosT at h; simp; omega
    have k2 : decide (d < 1) = false := by unfold PosT at h; simp; omega
    rw [e1, e2] at hb ⊢
    have hn : 0 ≤ n := by unfold PosT at h; omega
    have hd : 0 ≤ d := by unfold PosT at h; omega
    obtain ⟨g, hgg⟩ : ∃ g : Int, g = (Int.gcd n d : Int) := ⟨_, rfl⟩
    rw [← hgg] at hb hg ⊢
    obtain ⟨x, hx⟩ : ∃ x, n / g = x := ⟨_, rfl⟩
    obtain ⟨y, hy⟩ : ∃ x, d / g = x := ⟨_, rfl⟩
    have hgb : g ≤ 9223372036854775807 := by
      have : (Int.gcd n d : Int) ≤ n := Int.gcd_le_left _ (by unfold PosT at h; omega)
      omega
    rw [hx, hy] at hb ⊢
    have hgz : (g == 0) = false := by simp; omega
    have HG := Lib.hid hgg
    clear hgg h e1 e2
    obtain ⟨b1, b2, b3, b4⟩ := hb
    go_enter Try.func104, Try.ntmps104
    go_wp2_with fail
    refine (divisor_any n d _ hn n1 hd d1).mono ?_
    rintro e w1 ⟨rfl, hb1⟩
    rw [← HG.out]
    have hbk := (Two.new w _ _ _).on hb1
    have c0 := hbk.c0
    have c1 := hbk.c1
    have f0 := hbk.f0
    have f1 := hbk.f1
    have HB := Lib.hid hb1
    have HK := Lib.hid hbk
    clear hb1 hbk
    go_wp2_with fail
    go_region
    go_wp2_with fail
    have r0 := (HK.out.set0 (.int .i64 x)).c0
    have r1 := ((HK.out.set0 (.int .i64 x)).set1 (.int .i64 y)).c1
    refine bodyPost_ret (by simp [results, Try.results104, go_sem, r0, r1]; try rfl) rfl ?_
    refine ⟨rfl, ?_⟩
    have hal : Blw w.heap.size w (w.alloc (Obj.cells #[Value.int IntKind.i64 0, Value.int IntKind.i64 0] 81)) := (Blw.refl _ w).alloc (Nat.le_refl _) _
    exact (((blw_trans2 hal HB.out).setCell (Nat.le_refl _) _).setCell (Nat.le_refl _) _).drew
  · have e1 : lowN n d = 0 := if_neg h
    have e2 : lowD n d = 0 := if_neg h
    rw [e1, e2]
    clear e1 e2
    have h' : n < 1 ∨ d < 1 := by unfold PosT at h; omega
    clear h
    by_cases h1 : n < 1
    · have k1 : decide (n < 1) = true := by simpa using h1
      clear h'
      go_enter Try.func104, Try.ntmps104
      go_wp2_with fail
      go_returns
      exact ⟨rfl, by first | (go_grown; done) | exact (Blw.refl _ _).alloc (Nat.le_refl _) _⟩
    · have k1 : decide (n < 1) = false := by simpa using h1
      have k2 : decide (d < 1) = true := by simp; omega
      clear h'
      go_enter Try.func104, Try.ntmps104
      go_wp2_with fail
      go_returns
      exact ⟨rfl, by first | (go_grown; done) | exact (Blw.refl _ _).alloc (Nat.le_refl _) _⟩

/-- Too great a term. -/
def bigT (n d : Int) : Bool := decide (1099511627776 < max n d)
theorem great_any (n d : Int) (w : World) (n0 : -9223372036854775808 ≤ n) (n1 : n ≤ 9223372036854775807) (d0 : -9223372036854775808 ≤ d) (d1 : d ≤ 9223372036854775807) :
    Calls Try.prog 105 #[ratV n d] w fun e w' => e = .returned (.bool (bigT n d)) ∧ Blw w.heap.size w w' := by
  unfold ratV bigT
  go_enter Try.func105, Try.ntmps105
  go_wp2_with fail
  go_ret
  exact ⟨rfl, by first | (go_grown; done) | exact (Blw.refl _ _).alloc (Nat.le_refl _) _⟩

theorem low_zero {n d : Int} (h : ¬ PosT n d) : lowN n d = 0 ∧ lowD n d = 0 := by
  unfold lowN lowD; rw [if_neg h, if_neg h]; exact ⟨rfl, rfl⟩

open Go.RowKit
def ratSame (n e x y : Int) : Bool := decide (n = x ∧ e = y)
theorem ratSame_false {n e x y : Int} (h : ¬ (n = x ∧ e = y)) : ratSame n e x y = false := decide_eq_false h
theorem ratSame_self (n e : Int) : ratSame n e n e = true := decide_eq_true ⟨rfl, rfl⟩
theorem ratEq_run (d : Nat) (n e x y : Int) (w : World) : (Op.equalIn (d + 2) 81 (.agg #[.int .i64 n, .int .i64 e]) (.agg #[.int .i64 x, .int .i64 y])).run Try.prog w = .ok (ratSame n e x y) w := by
  rw [run_equalIn_struct w (d + 1) 81 _ _ (by kernel_rfl) (by kernel_rfl)]
  have hu := Try.underlying2
  by_cases h1 : n = x <;> by_cases h2 : e = y
  all_goals simp [ratSame, go_sem, Try.underlying81, hu, h1, h2]


open Go.RowKit

def mayB (n d : Int) : Bool := decide (PosT n d ∧ Int.gcd n d = 1 ∧ n ≤ 1099511627776 ∧ d ≤ 1099511627776)
theorem low_self {n d : Int} (h : PosT n d) : (lowN n d = n ∧ lowD n d = d) ↔ Int.gcd n d = 1 := by
  unfold lowN lowD
  rw [if_pos h, if_pos h]
  have hg := gcd_pos h
  unfold PosT at h
  constructor
  · rintro ⟨h1, -⟩
    have h2 : (Int.gcd n d : Int) ∣ n := Int.gcd_dvd_left ..
    have h3 := Int.ediv_mul_cancel h2
    rw [h1] at h3
    have h4 : n * ((Int.gcd n d : Int) - 1) = 0 := by rw [Int.mul_sub, h3]; omega
    rcases Int.mul_eq_zero.1 h4 with h5 | h5 <;> omega
  · intro h1; rw [h1]; simp
attribute [local go_sem high] ratEq_run ratSame_self
set_option maxHeartbeats 4000000 in
theorem may_any (n d : Int) (w : World) (n0 : -9223372036854775808 ≤ n) (n1 : n ≤ 9223372036854775807) (d0 : -9223372036854775808 ≤ d) (d1 : d ≤ 9223372036854775807) :
    Calls Try.prog 55 #[ratV n d] w fun e w' => e = .returned (.bool (mayB n d)) ∧ Blw w.heap.size w w' := by
  unfold ratV
  by_cases hz : n = 0 ∧ d = 0
  · obtain ⟨rfl, rfl⟩ := hz
    rw [show mayB 0 0 = false from rfl]
    go_enter Try.func55, Try.ntmps55
    go_wp2_with fail
    go_quiet (fail)
    go_wp2_with fail
    go_ret
    exact ⟨rfl, blw_drewN ((Blw.refl _ _).alloc (Nat.le_refl _) _) _⟩
  · obtain ⟨x, hx⟩ : ∃ x, lowN n d = x := ⟨_, rfl⟩
    obtain ⟨y, hy⟩ : ∃ x, lowD n d = x := ⟨_, rfl⟩
    have HX := Lib.hid hx
    have HY := Lib.hid hy
    clear hx hy
    by_cases hs : x = n ∧ y = d
    · obtain ⟨rfl, rfl⟩ := hs
      have hpos : PosT x y := by
        by_cases hp : PosT x y
        · exact hp
        · have := low_zero hp
          rw [HX.out, HY.out] at this
          exact absurd this hz
      have hxz : ratSame x y 0 0 = false := ratSame_false hz
      obtain ⟨big, hbig⟩ : ∃ b, bigT x y = b := ⟨_, rfl⟩
      have hres : mayB x y = !big := by
        have hg := (low_self hpos).1 ⟨HX.out, HY.out⟩
        unfold mayB
        rw [← hbig]
        unfold bigT
        by_cases hm : x ≤ 1099511627776 ∧ y ≤ 1099511627776
        · rw [decide_eq_true ⟨hpos, hg, hm.1, hm.2⟩, decide_eq_false (by omega)]; rfl
        · rw [decide_eq_false (fun h => hm ⟨h.2.2.1, h.2.2.2⟩), decide_eq_true (by omega)]; rfl
      rw [hres]
      clear hz hpos hres
      go_enter Try.func55, Try.ntmps55
      go_wp2_with fail
      go_region_held3 (fun wz => wz.cell? ⟨w.heap.size, 0, none⟩ = some (.int .i64 x) ∧ wz.cell? ⟨w.heap.size, 1, none⟩ = some (.int .i64 y) ∧ Two wz w.heap.size 81 (.int .i64 x) (.int .i64 y) ∧ Blw w.heap.size w wz) (first | assumption | exact HeldTwo.first _ _ _ _ | (refine HeldTwo.next (by assumption) ?_; assumption)) (first | (go_at_call 104; refine (least_any x y _ n0 n1 d0 d1).mono ?_; rintro e w2 ⟨rfl, hb2⟩; rw [HX.out, HY.out]; unfold ratV) | (go_at_call 105; refine (great_any x y _ n0 n1 d0 d1).mono ?_; rintro e w2 ⟨rfl, hb2⟩; rw [hbig]))
      rename_i hh
      go_wp2_with fail
      go_ret
      exact ⟨rfl, hh.2.2.2⟩
    · have hres : mayB n d = false := by
        unfold mayB
        refine decide_eq_false (fun h => hs ?_)
        have := (low_self h.1).2 h.2.1
        rw [HX.out, HY.out] at this
        exact this
      rw [hres]
      clear hres
      have hz0 : ratSame n d 0 0 = false := ratSame_false hz
      have hs0 : ratSame n d x y = false := ratSame_false (fun h => hs ⟨h.1.symm, h.2.symm⟩)
      clear hz hs
      go_enter Try.func55, Try.ntmps55
      go_wp2_with fail
      go_region_with (first | (go_at_call 104; refine (least_any n d _ n0 n1 d0 d1).mono ?_; rintro e w2 ⟨rfl, hb2⟩; rw [HX.out, HY.out]; unfold ratV; obtain ⟨k0, k1, -, kb⟩ := HeldTwo.next (HeldTwo.first _ _ _ _) hb2))
      all_goals (go_wp2_with fail; go_ret; exact ⟨rfl, kb⟩)

def In64p (n d : Int) : Prop := -9223372036854775808 ≤ n ∧ n ≤ 9223372036854775807 ∧ -9223372036854775808 ≤ d ∧ d ≤ 9223372036854775807
theorem may_facts {n d : Int} (h : mayB n d = true) : 1 ≤ n ∧ 1 ≤ d ∧ n ≤ 1099511627776 ∧ d ≤ 1099511627776 := by
  have := of_decide_eq_true h
  exact ⟨this.1.1, this.1.2, this.2.2.1, this.2.2.2⟩

open Go.RowKit

def cmpI (x y : Int) : Int := if x < y then -1 else if y < x then 1 else 0
theorem cmpI_lt {x y : Int} (h : x < y) : cmpI x y = -1 := if_pos h
theorem cmpI_gt {x y : Int} (h : y < x) : cmpI x y = 1 := by unfold cmpI; rw [if_neg (by omega), if_pos h]
theorem cmpI_eq (x : Int) : cmpI x x = 0 := by unfold cmpI; rw [if_neg (by omega), if_neg (by omega)]
theorem compare_any (x y : Int) (w : World) :
    Calls Try.prog 109 #[.int .u64 x, .int .u64 y] w fun e w' => e = .returned (.int .i64 (cmpI x y)) ∧ w' = w := by
  rcases Int.lt_trichotomy x y with h | rfl | h
  · have k1 : decide (x < y) = true := by simpa using h
    rw [cmpI_lt h]
    go_enter Try.func109, Try.ntmps109
    go_wp2
    go_ret
    exact ⟨rfl, rfl⟩
  · rw [cmpI_eq]
    go_enter Try.func109, Try.ntmps109
    go_wp2
    go_ret
    exact ⟨rfl, rfl⟩
  · have k1 : decide (x < y) = false := by simp; omega
    have k2 : decide (y < x) = true := by simpa using h
    rw [cmpI_gt h]
    go_enter Try.func109, Try.ntmps109
    go_wp2
    go_ret
    exact ⟨rfl, rfl⟩

def orI (x y : Int) : Int := if x = 0 then y else x
set_option maxHeartbeats 1000000 in
theorem or_any (a : Option Addr) (c : Nat) (x y : Int) (w : World) (hx : Rd w a [.int .i64 x, .int .i64 y]) :
    Calls Try.prog 108 #[.slice a 2 c] w fun e w' => e = .returned (.int .i64 (orI x y)) ∧ Blw w.heap.size w w' := by
  obtain ⟨b, o, rfl, h0⟩ := hx 0 (by simp)
  have h1 := hx.get (i := 1) (by simp)
  simp only [Nat.add_zero, List.getElem_cons_zero, List.getElem_cons_succ] at h0 h1
  by_cases hz : x = 0
  · subst hz
    rw [show orI 0 y = y from if_pos rfl]
    by_cases hy : y = 0
    · subst hy
      go_enter Try.func108, Try.ntmps108
      go_wp2
      go_rounds 3
      go_ret
      exact ⟨rfl, Blw.refl _ _⟩
    · have ky : (y != 0) = true := by simpa using hy
      go_enter Try.func108, Try.ntmps108
      go_wp2
      go_rounds 2
      go_ret
      exact ⟨rfl, Blw.refl _ _⟩
  · have kx : (x != 0) = true := by simpa using hz
    rw [show orI x y = x from if_neg hz]
    go_enter Try.func108, Try.ntmps108
    go_wp2
    go_rounds 2
    go_ret
    exact ⟨rfl, Blw.refl _ _⟩

def cmpR (an ad bn bd : Int) : Int := if mayB an ad && mayB bn bd then cmpI (an * bd) (bn * ad) else 0
theorem lex (p q : Nat) : orI (cmpI ((p / 18446744073709551616 : Nat) : Int) ((q / 18446744073709551616 : Nat) : Int)) (cmpI ((p % 18446744073709551616 : Nat) : Int) ((q % 18446744073709551616 : Nat) : Int)) = cmpI (p : Int) (q : Int) := by
  have h1 := Nat.div_add_mod p 18446744073709551616
  have h2 := Nat.div_add_mod q 18446744073709551616
  have h3 := Nat.mod_lt p (show 18446744073709551616 > 0 by omega)
  have h4 := Nat.mod_lt q (show 18446744073709551616 > 0 by omega)
  generalize p / 18446744073709551616 = a at *
  generalize q / 18446744073709551616 = b at *
  generalize p % 18446744073709551616 = c at *
  generalize q % 18446744073709551616 = d at *
  rcases Nat.lt_trichotomy a b with h | rfl | h
  · rw [cmpI_lt (by omega), cmpI_lt (x := (p : Int)) (by omega)]; rfl
  · rw [cmpI_eq]
    show cmpI _ _ = _
    rcases Nat.lt_trichotomy c d with h | rfl | h
    · rw [cmpI_lt (by omega), cmpI_lt (x := (p : Int)) (by omega)]
    · obtain rfl : p = q := by omega
      rw [cmpI_eq, cmpI_eq]
    · rw [cmpI_gt (by omega), cmpI_gt (x := (p : Int)) (by omega)]
  · rw [cmpI_gt (by omega), cmpI_gt (x := (p : Int)) (by omega)]; rfl
set_option maxHeartbeats 2000000 in
theorem rcompare_any (an ad bn bd : Int) (w : World) (ha : In64p an ad) (hb : In64p bn bd) :
    Calls Try.prog 57 #[ratV an ad, ratV bn bd] w fun e w' => e = .returned (.int .i64 (cmpR an ad bn bd)) ∧ Blw w.heap.size w w' := by
  have hm := fun w => may_any an ad w ha.1 ha.2.1 ha.2.2.1 ha.2.2.2
  have hm2 := fun w => may_any bn bd w hb.1 hb.2.1 hb.2.2.1 hb.2.2.2
  have hal : Blw w.heap.size w (w.alloc (.cells #[.int .i64 an, .int .i64 ad] 81)) := (Blw.refl _ w).alloc (Nat.le_refl _) _
  have hal2 := blw_trans2 hal ((Blw.refl _ _).alloc (Nat.le_refl _) (.cells #[.int .i64 bn, .int .i64 bd] 81))
  have HAL := Lib.hid hal2
  clear hal hal2
  cases hma : mayB an ad
  · rw [show cmpR an ad bn bd = 0 by unfold cmpR; rw [hma]; rfl]
    rw [hma] at hm
    clear hma hm2
    unfold ratV at *
    go_enter Try.func57, Try.ntmps57
    go_wp2_with fail
    refine (hm _).mono ?_
    rintro e w1 ⟨rfl, hb1⟩
    have HB := Lib.hid (blw_trans2 HAL.out hb1)
    clear hb1 hm
    go_wp2_with fail
    go_ret
    exact ⟨rfl, HB.out⟩
  · cases hmb : mayB bn bd
    · rw [show cmpR an ad bn bd = 0 by unfold cmpR; rw [hma, hmb]; rfl]
      rw [hma] at hm
      rw [hmb] at hm2
      clear hma hmb
      have HM2 := Lib.hid hm2
      clear hm2
      unfold ratV at *
      go_enter Try.func57, Try.ntmps57
      go_wp2_with fail
      refine (hm _).mono ?_
      rintro e w1 ⟨rfl, hb1⟩
      have t2 := (Two.new (w.alloc (.cells #[.int .i64 an, .int .i64 ad] 81)) 81 (.int .i64 bn) (.int .i64 bd)).on hb1
      rw [World.size_alloc] at t2
      have c0 := t2.c0
      have c1 := t2.c1
      have HB := Lib.hid (blw_trans2 HAL.out hb1)
      clear hb1 hm t2
      go_wp2_with fail
      refine (HM2.out _).mono ?_
      rintro e w2 ⟨rfl, hb2⟩
      have HB2 := Lib.hid (blw_trans2 HB.out hb2)
      clear hb2
      go_wp2_with fail
      go_ret
      exact ⟨rfl, HB2.out⟩
    · obtain ⟨p1, p2, p3, p4⟩ := may_facts hma
      obtain ⟨q1, q2, q3, q4⟩ := may_facts hmb
      rw [show cmpR an ad bn bd = cmpI (an * bd) (bn * ad) by unfold cmpR; rw [hma, hmb]; rfl]
      rw [hma] at hm
      rw [hmb] at hm2
      clear hma hmb
      have HM2 := Lib.hid hm2
      clear hm2
      obtain ⟨An, rfl⟩ : ∃ A : Nat, an = A := ⟨an.toNat, by omega⟩
      obtain ⟨Ad, rfl⟩ : ∃ A : Nat, ad = A := ⟨ad.toNat, by omega⟩
      obtain ⟨Bn, rfl⟩ : ∃ A : Nat, bn = A := ⟨bn.toNat, by omega⟩
      obtain ⟨Bd, rfl⟩ : ∃ A : Nat, bd = A := ⟨bd.toNat, by omega⟩
      have HLEX := Lib.hid (lex (An * Bd) (Bn * Ad))
      obtain ⟨h1, hh1⟩ : ∃ x : Nat, x = An * Bd / 18446744073709551616 := ⟨_, rfl⟩
      obtain ⟨l1, hl1⟩ : ∃ x : Nat, x = An * Bd % 18446744073709551616 := ⟨_, rfl⟩
      obtain ⟨h2, hh2⟩ : ∃ x : Nat, x = Bn * Ad / 18446744073709551616 := ⟨_, rfl⟩
      obtain ⟨l2, hl2⟩ : ∃ x : Nat, x = Bn * Ad % 18446744073709551616 := ⟨_, rfl⟩
      rw [← hh1, ← hl1, ← hh2, ← hl2] at HLEX
      have HH1 := Lib.hid hh1
      have HL1 := Lib.hid hl1
      have HH2 := Lib.hid hh2
      have HL2 := Lib.hid hl2
      clear hh1 hl1 hh2 hl2
      rw [show (An : Int) * Bd = ((An * Bd : Nat) : Int) by simp, show (Bn : Int) * Ad = ((Bn * Ad : Nat) : Int) by simp, ← HLEX.out]
      clear HLEX
      obtain ⟨c1, hc1⟩ : ∃ x, x = cmpI (h1 : Int) h2 := ⟨_, rfl⟩
      obtain ⟨c2, hc2⟩ : ∃ x, x = cmpI (l1 : Int) l2 := ⟨_, rfl⟩
      rw [← hc1, ← hc2]
      have HC1 := Lib.hid hc1
      have HC2 := Lib.hid hc2
      clear hc1 hc2
      unfold ratV at *
      go_enter Try.func57, Try.ntmps57
      go_wp2_with fail
      refine (hm _).mono ?_
      rintro e w1 ⟨rfl, hb1⟩
      have t1 := ((Two.new w 81 (.int .i64 An) (.int .i64 Ad)).alloc (.cells #[.int .i64 Bn, .int .i64 Bd] 81)).on hb1
      have t2 := (Two.new (w.alloc (.cells #[.int .i64 An, .int .i64 Ad] 81)) 81 (.int .i64 Bn) (.int .i64 Bd)).on hb1
      rw [World.size_alloc] at t2
      have c0 := t2.c0
      have c1 := t2.c1
      have HB := Lib.hid (blw_trans2 HAL.out hb1)
      clear hb1 hm
      have T1 := Lib.hid t1
      have T2 := Lib.hid t2
      clear t1 t2
      go_wp2_with fail
      refine (HM2.out _).mono ?_
      rintro e w2 ⟨rfl, hb2⟩
      have HB2 := Lib.hid (blw_trans2 HB.out hb2)
      have T1' := T1.out.on hb2
      have T2' := T2.out.on hb2
      have c0 := T2'.c0
      have c1 := T2'.c1
      have d0 := T1'.c0
      have d1 := T1'.c1
      clear hb2 T1' T2'
      go_wp2_with fail
      refine (Try.bits_Mul64 An Bd (by omega) (by omega) _).mono ?_
      rintro e w3 ⟨rfl, rfl⟩
      rw [← HH1.out, ← HL1.out]
      go_wp2_with fail
      refine (Try.bits_Mul64 Bn Ad (by omega) (by omega) _).mono ?_
      rintro e w3 ⟨rfl, rfl⟩
      rw [← HH2.out, ← HL2.out]
      go_wp2_with fail
      refine (compare_any h1 h2 _).mono ?_
      rintro e w3 ⟨rfl, rfl⟩
      rw [← HC1.out]
      go_wp2_with fail
      refine (compare_any l1 l2 _).mono ?_
      rintro e w3 ⟨rfl, rfl⟩
      rw [← HC2.out]
      go_wp2_with fail
      refine (or_any _ 2 _ _ _ (Rd.lit _ _ _ _)).mono ?_
      rintro e w4 ⟨rfl, hb4⟩
      go_wp2_with fail
      go_ret
      exact ⟨rfl, (HB2.out.alloc (by have := HB2.out.size; omega) _).trans (hb4.mono (by have := HB2.out.size; simp; omega))⟩


theorem cmpI_swap (x y : Int) : cmpI y x = -cmpI x y := by
  rcases Int.lt_trichotomy x y with h | rfl | h
  · rw [cmpI_lt h, cmpI_gt h]; rfl
  · rw [cmpI_eq]; rfl
  · rw [cmpI_lt h, cmpI_gt h]
theorem cmpI_le {x y : Int} : cmpI x y ≤ 0 ↔ x ≤ y := by
  rcases Int.lt_trichotomy x y with h | rfl | h
  · rw [cmpI_lt h]; omega
  · rw [cmpI_eq]; omega
  · rw [cmpI_gt h]; omega
theorem cmpR_swap (an ad bn bd : Int) : cmpR bn bd an ad = -cmpR an ad bn bd := by
  unfold cmpR
  rw [Bool.and_comm]
  cases mayB an ad && mayB bn bd
  · rfl
  · exact cmpI_swap _ _
theorem cmpR_may {an ad bn bd : Int} (ha : mayB an ad = true) (hb : mayB bn bd = true) : cmpR an ad bn bd = cmpI (an * bd) (bn * ad) := by
  unfold cmpR; rw [ha, hb]; rfl
theorem cmpR_trans {an ad bn bd cn cd : Int} (ha : mayB an ad = true) (hb : mayB bn bd = true) (hc : mayB cn cd = true) (h1 : cmpR an ad bn bd ≤ 0) (h2 : cmpR bn bd cn cd ≤ 0) : cmpR an ad cn cd ≤ 0 := by
  rw [cmpR_may ha hb, cmpI_le] at h1
  rw [cmpR_may hb hc, cmpI_le] at h2
  rw [cmpR_may ha hc, cmpI_le]
  obtain ⟨p1, p2, -, -⟩ := may_facts ha
  obtain ⟨q1, q2, -, -⟩ := may_facts hb
  obtain ⟨r1, r2, -, -⟩ := may_facts hc
  have k1 := Int.mul_le_mul_of_nonneg_right h1 (show 0 ≤ cd by omega)
  have k2 := Int.mul_le_mul_of_nonneg_right h2 (show 0 ≤ ad by omega)
  have k3 : an * cd * bd ≤ cn * ad * bd := by
    have e1 : an * bd * cd = an * cd * bd := Int.mul_right_comm _ _ _
    have e2 : bn * ad * cd = bn * cd * ad := Int.mul_right_comm _ _ _
    have e3 : cn * bd * ad = cn * ad * bd := Int.mul_right_comm _ _ _
    omega
  exact Int.le_of_mul_le_mul_right k3 (by omega)


end Go.Proofs.Ytacglcpjbepfnaa

/- Books of offers as lists: what each act answers, and makes of a book. (Plain.) -/
namespace Go.Proofs.Ytacglcpjbepfnaa
set_option linter.unusedSimpArgs false
set_option linter.unusedVariables false
/-- An offer: its number, whose, what it sells and buys, how much is left, its rate. -/
structure Ofr where
  (sq ow se bu le nu de : Int)
deriving DecidableEq
structure Bok where
  (L : List Ofr) (nx : Int)
def mayC (c : Int) : Bool := decide (1 ≤ c) && decide (c ≤ 8)
def mayO (o : Ofr) : Bool := decide (1 ≤ o.ow ∧ o.ow ≤ 16) && (mayC o.se && mayC o.bu && decide (o.se ≠ o.bu)) && (decide (1 ≤ o.le ∧ o.le ≤ 1099511627776) && mayB o.nu o.de)
structure Bok.Good (B : Bok) : Prop where
  ord : B.L.Pairwise fun x y => x.sq < y.sq
  ok : ∀ o ∈ B.L, mayO o = true ∧ 1 ≤ o.sq ∧ o.sq < B.nx
  few : B.L.length ≤ 32
  nx : 1 ≤ B.nx ∧ B.nx ≤ 18446744073709551615
def Bok.new : Bok := ⟨[], 1⟩
theorem Bok.new_good : Bok.new.Good := ⟨.nil, (fun _ h => by cases h), by simp [Bok.new], by simp [Bok.new]⟩
theorem mayO_iff {o : Ofr} : mayO o = true ↔ (1 ≤ o.ow ∧ o.ow ≤ 16) ∧ (1 ≤ o.se ∧ o.se ≤ 8) ∧ (1 ≤ o.bu ∧ o.bu ≤ 8) ∧ o.se ≠ o.bu ∧ (1 ≤ o.le ∧ o.le ≤ 1099511627776) ∧ mayB o.nu o.de = true := by
  unfold mayO mayC
  simp only [Bool.and_eq_true, decide_eq_true_eq]
  constructor
  · rintro ⟨⟨h1, ⟨⟨h2, h3⟩, h4⟩⟩, h5, h6⟩; exact ⟨h1, h2, h3, h4, h5, h6⟩
  · rintro ⟨h1, h2, h3, h4, h5, h6⟩; exact ⟨⟨h1, ⟨⟨h2, h3⟩, h4⟩⟩, h5, h6⟩
/-! Placing. -/
def placeO (B : Bok) (ow se bu le nu de : Int) : Ofr := ⟨B.nx, ow, se, bu, le, nu, de⟩
def placeE (B : Bok) (ow se bu le nu de : Int) : Int := if mayO (placeO B ow se bu le nu de) = false then 1 else if 32 ≤ B.L.length ∨ B.nx = 18446744073709551615 then 9 else 0
def placeN (B : Bok) (ow se bu le nu de : Int) : Int := if placeE B ow se bu le nu de = 0 then B.nx else 0
def placeS (B : Bok) (ow se bu le nu de : Int) : Bok := if placeE B ow se bu le nu de = 0 then ⟨B.L ++ [placeO B ow se bu le nu de], B.nx + 1⟩ else B
theorem placeE_ok {B : Bok} {ow se bu le nu de : Int} (h : placeE B ow se bu le nu de = 0) : mayO (placeO B ow se bu le nu de) = true ∧ B.L.length < 32 ∧ B.nx ≠ 18446744073709551615 := by
  unfold placeE at h
  split at h
  · omega
  · rename_i h1
    split at h
    · omega
    · exact ⟨by simpa using h1, by omega, by omega⟩
theorem Bok.Good.place {B : Bok} (G : B.Good) (ow se bu le nu de : Int) : (placeS B ow se bu le nu de).Good := by
  unfold placeS
  split
  · rename_i h
    obtain ⟨h1, h2, h3⟩ := placeE_ok h
    have := G.nx
    refine ⟨?_, fun o ho => ?_, ?_, ?_⟩
    · simp only
      rw [List.pairwise_append]
      refine ⟨G.ord, by simp, fun x hx y hy => ?_⟩
      obtain rfl := List.mem_singleton.1 hy
      exact (G.ok x hx).2.2
    · simp only at ho ⊢
      rcases List.mem_append.1 ho with ho | ho
      · have := G.ok o ho
        exact ⟨this.1, this.2.1, by omega⟩
      · obtain rfl := List.mem_singleton.1 ho
        exact ⟨h1, G.nx.1, by show B.nx < B.nx + 1; omega⟩
    · simp only [List.length_append, List.length_singleton]; omega
    · simp only; omega
  · exact G
/-! Finding. -/
def findO (L : List Ofr) (s : Int) : Option Ofr := L.find? fun o => o.sq == s
theorem findO_some {L : List Ofr} {s : Int} {o : Ofr} (h : findO L s = some o) : o ∈ L ∧ o.sq = s := ⟨List.mem_of_find?_eq_some h, by simpa using List.find?_some h⟩
theorem seq_uniq : ∀ {L : List Ofr}, L.Pairwise (fun x y => x.sq < y.sq) → ∀ {x y : Ofr}, x ∈ L → y ∈ L → x.sq = y.sq → x = y
  | [], _, _, _, h, _, _ => by cases h
  | a :: L, h, x, y, hx, hy, e => by
    have h1 := List.pairwise_cons.1 h
    rcases List.mem_cons.1 hx with hx | hx <;> rcases List.mem_cons.1 hy with hy | hy
    · rw [hx, hy]
    · have := h1.1 _ hy; rw [hx] at e; omega
    · have := h1.1 _ hx; rw [hy] at e; omega
    · exact seq_uniq h1.2 hx hy e
/-! Taking of, and cancelling. -/
/-- What is left of an offer is set; of nothing it is none. -/
def setO (L : List Ofr) (s v : Int) : List Ofr := (L.map fun o => if o.sq = s then { o with le := v } else o).filter fun o => decide (0 < o.le)
def cancelE (B : Bok) (ow s : Int) : Int := match findO B.L s with
  | none => 7
  | some o => if o.ow ≠ ow then 15 else 0
def cancelN (B : Bok) (ow s : Int) : Int := match findO B.L s with
  | none => 0
  | some o => if o.ow ≠ ow then 0 else o.le
def cancelS (B : Bok) (ow s : Int) : Bok := if cancelE B ow s = 0 then ⟨setO B.L s 0, B.nx⟩ else B
def takeE (B : Bok) (s n : Int) : Int := match findO B.L s with
  | none => 7
  | some o => if n < 1 ∨ o.le < n then 1 else 0
def takeS (B : Bok) (s n : Int) : Bok := match findO B.L s with
  | none => B
  | some o => if n < 1 ∨ o.le < n then B else ⟨setO B.L s (o.le - n), B.nx⟩
theorem setO_mem {L : List Ofr} {s v : Int} {z : Ofr} : z ∈ setO L s v ↔ 0 < z.le ∧ ((z ∈ L ∧ z.sq ≠ s) ∨ ∃ x ∈ L, x.sq = s ∧ z = { x with le := v }) := by
  unfold setO
  rw [List.mem_filter, List.mem_map, decide_eq_true_eq]
  constructor
  · rintro ⟨⟨x, hx, rfl⟩, h⟩
    refine ⟨h, ?_⟩
    by_cases e : x.sq = s
    · rw [if_pos e]; exact .inr ⟨x, hx, e, rfl⟩
    · rw [if_neg e]; exact .inl ⟨hx, e⟩
  · rintro ⟨h, ⟨h1, h2⟩ | ⟨x, hx, e, rfl⟩⟩
    · exact ⟨⟨z, h1, if_neg h2⟩, h⟩
    · exact ⟨⟨x, hx, if_pos e⟩, h⟩
theorem setO_pw {L : List Ofr} (h : L.Pairwise fun x y => x.sq < y.sq) (s v : Int) : (setO L s v).Pairwise fun x y => x.sq < y.sq := by
  unfold setO
  refine List.Pairwise.filter _ ?_
  rw [List.pairwise_map]
  refine h.imp fun {a b} hab => ?_
  have e : ∀ o : Ofr, (if o.sq = s then { o with le := v } else o).sq = o.sq := fun o => by split <;> rfl
  rw [e, e]
  exact hab
theorem setO_len (L : List Ofr) (s v : Int) : (setO L s v).length ≤ L.length := by
  unfold setO
  exact Nat.le_trans (List.length_filter_le ..) (by simp)
theorem Bok.Good.set {B : Bok} (G : B.Good) (s v : Int) (hv : ∀ o ∈ B.L, o.sq = s → v ≤ o.le) : (⟨setO B.L s v, B.nx⟩ : Bok).Good := by
  refine ⟨setO_pw G.ord s v, fun z hz => ?_, Nat.le_trans (setO_len _ _ _) G.few, G.nx⟩
  obtain ⟨h0, ⟨h1, h2⟩ | ⟨x, hx, e, rfl⟩⟩ := setO_mem.1 hz
  · exact G.ok z h1
  · obtain ⟨h1, h2, h3⟩ := G.ok x hx
    have h4 := mayO_iff.1 h1
    have h5 := hv x hx e
    simp only at h0 ⊢
    exact ⟨mayO_iff.2 ⟨h4.1, h4.2.1, h4.2.2.1, h4.2.2.2.1, ⟨by simp only; omega, by simp only; omega⟩, h4.2.2.2.2.2⟩, h2, h3⟩
theorem Bok.Good.cancel {B : Bok} (G : B.Good) (ow s : Int) : (cancelS B ow s).Good := by
  unfold cancelS
  split
  · exact G.set s 0 fun o ho _ => by have := (mayO_iff.1 (G.ok o ho).1).2.2.2.2.1; omega
  · exact G
theorem Bok.Good.take {B : Bok} (G : B.Good) (s n : Int) : (takeS B s n).Good := by
  unfold takeS
  cases h : findO B.L s with
  | none => exact G
  | some o =>
    simp only
    split
    · exact G
    · refine G.set s _ fun x hx e => ?_
      obtain ⟨h1, h2⟩ := findO_some h
      obtain rfl := seq_uniq G.ord hx h1 (by omega)
      omega
/-! The best ones. -/
def cmpO (x y : Ofr) : Int := cmpR x.nu x.de y.nu y.de
/-- An offer put behind all that are no dearer. -/
def insO (out : List Ofr) (o : Ofr) : List Ofr := out.takeWhile (fun y => decide (cmpO y o ≤ 0)) ++ o :: out.dropWhile (fun y => decide (cmpO y o ≤ 0))
def ofC (se bu : Int) (o : Ofr) : Bool := (o.se == se) && (o.bu == bu)
def bestO (L : List Ofr) (se bu : Int) : List Ofr := (L.filter (ofC se bu)).foldl insO []
/-- By rate, then by number. -/
def ltO (x y : Ofr) : Prop := cmpO x y < 0 ∨ (cmpO x y = 0 ∧ x.sq < y.sq)
theorem cmpO_swap (x y : Ofr) : cmpO y x = -cmpO x y := cmpR_swap _ _ _ _
theorem cmpO_trans {x y z : Ofr} (hx : mayO x = true) (hy : mayO y = true) (hz : mayO z = true) (h1 : cmpO x y ≤ 0) (h2 : cmpO y z ≤ 0) : cmpO x z ≤ 0 :=
  cmpR_trans (mayO_iff.1 hx).2.2.2.2.2 (mayO_iff.1 hy).2.2.2.2.2 (mayO_iff.1 hz).2.2.2.2.2 h1 h2
theorem ltO_asym (x y : Ofr) (h : ltO x y) : ¬ ltO y x := by
  unfold ltO at *
  rw [cmpO_swap x y]
  omega
theorem ltO_le {x y : Ofr} (h : ltO x y) : cmpO x y ≤ 0 := by unfold ltO at h; omega
theorem ltO_of_seq {x y : Ofr} (h : cmpO x y ≤ 0) (hs : x.sq < y.sq) : ltO x y := by unfold ltO; omega
theorem takeWhile_ok {p : Ofr → Bool} : ∀ {L : List Ofr} {y : Ofr}, y ∈ L.takeWhile p → p y = true
  | [], y, h => by cases h
  | a :: L, y, h => by
    rw [List.takeWhile_cons] at h
    split at h
    · rename_i ha
      rcases List.mem_cons.1 h with rfl | h
      · exact ha
      · exact takeWhile_ok h
    · cases h
theorem insO_perm (out : List Ofr) (o : Ofr) : (insO out o).Perm (out ++ [o]) := by
  unfold insO
  refine List.perm_middle.trans ?_
  rw [List.takeWhile_append_dropWhile]
  exact (List.perm_append_singleton o out).symm
theorem dropWhile_all {o : Ofr} (ho : mayO o = true) : ∀ {out : List Ofr}, (∀ y ∈ out, mayO y = true) → out.Pairwise ltO → ∀ z ∈ out.dropWhile (fun y => decide (cmpO y o ≤ 0)), ¬ cmpO z o ≤ 0
  | [], _, _, z, hz => by cases hz
  | a :: out, hm, hp, z, hz => by
    rw [List.pairwise_cons] at hp
    rw [List.dropWhile_cons] at hz
    split at hz
    · exact dropWhile_all ho (fun y hy => hm y (List.mem_cons_of_mem _ hy)) hp.2 z hz
    · rename_i ha
      simp only [decide_eq_true_eq] at ha
      rcases List.mem_cons.1 hz with rfl | hz
      · exact ha
      · intro h
        exact ha (cmpO_trans (hm a List.mem_cons_self) (hm z (List.mem_cons_of_mem _ hz)) ho (ltO_le (hp.1 z hz)) h)
theorem insO_pw {out : List Ofr} {o : Ofr} (ho : mayO o = true) (hm : ∀ y ∈ out, mayO y = true) (hs : ∀ y ∈ out, y.sq < o.sq) (hp : out.Pairwise ltO) : (insO out o).Pairwise ltO := by
  unfold insO
  have e := List.takeWhile_append_dropWhile (p := fun y => decide (cmpO y o ≤ 0)) (l := out)
  have h1 : ∀ y ∈ out.takeWhile (fun y => decide (cmpO y o ≤ 0)), cmpO y o ≤ 0 := fun y hy => by have := takeWhile_ok hy; simpa using this
  have h2 := dropWhile_all ho hm hp
  have h3 : ∀ y ∈ out.takeWhile (fun y => decide (cmpO y o ≤ 0)), y ∈ out := fun y hy => by rw [← e]; exact List.mem_append_left _ hy
  have h4 : ∀ y ∈ out.dropWhile (fun y => decide (cmpO y o ≤ 0)), y ∈ out := fun y hy => by rw [← e]; exact List.mem_append_right _ hy
  have hq := hp
  rw [← e, List.pairwise_append] at hq
  rw [List.pairwise_append, List.pairwise_cons]
  refine ⟨hq.1, ⟨fun z hz => ?_, hq.2.1⟩, fun x hx y hy => ?_⟩
  · have := h2 z hz
    unfold ltO
    rw [cmpO_swap z o]
    omega
  · rcases List.mem_cons.1 hy with rfl | hy
    · exact ltO_of_seq (h1 x hx) (hs x (h3 x hx))
    · exact hq.2.2 x hx y hy
theorem best_aux : ∀ (M out : List Ofr), (∀ y ∈ M, mayO y = true) → (∀ y ∈ out, mayO y = true) → M.Pairwise (fun x y => x.sq < y.sq) → (∀ x ∈ out, ∀ y ∈ M, x.sq < y.sq) → out.Pairwise ltO → (M.foldl insO out).Pairwise ltO ∧ (M.foldl insO out).Perm (out ++ M)
  | [], out, _, _, _, _, hp => ⟨hp, by simp⟩
  | o :: M, out, h1, h2, h3, h4, hp => by
    rw [List.pairwise_cons] at h3
    have hq := insO_perm out o
    have ih := best_aux M (insO out o) (fun y hy => h1 y (List.mem_cons_of_mem _ hy)) (fun y hy => by
      rcases List.mem_append.1 (hq.mem_iff.1 hy) with h | h
      · exact h2 y h
      · obtain rfl := List.mem_singleton.1 h; exact h1 _ List.mem_cons_self) h3.2 (fun x hx y hy => by
      rcases List.mem_append.1 (hq.mem_iff.1 hx) with h | h
      · exact h4 x h y (List.mem_cons_of_mem _ hy)
      · obtain rfl := List.mem_singleton.1 h; exact h3.1 y hy)
      (insO_pw (h1 _ List.mem_cons_self) h2 (fun y hy => h4 y hy o List.mem_cons_self) hp)
    refine ⟨ih.1, ih.2.trans ?_⟩
    have := hq.append_right M
    rw [List.append_assoc, List.singleton_append] at this
    exact this
theorem Bok.Good.best {B : Bok} (G : B.Good) (se bu : Int) : (bestO B.L se bu).Pairwise ltO ∧ (bestO B.L se bu).Perm (B.L.filter (ofC se bu)) := by
  have := best_aux (B.L.filter (ofC se bu)) [] (fun y hy => (G.ok y (List.mem_filter.1 hy).1).1) (fun y hy => by cases hy) (G.ord.filter _) (fun x hx => by cases hx) .nil
  simpa [bestO] using this
theorem bestO_snoc (L : List Ofr) (o : Ofr) (se bu : Int) : bestO (L ++ [o]) se bu = if ofC se bu o = true then insO (bestO L se bu) o else bestO L se bu := by
  unfold bestO
  rw [List.filter_append, List.foldl_append]
  by_cases h : ofC se bu o = true
  · rw [if_pos h, List.filter_cons_of_pos h]; rfl
  · rw [if_neg h, List.filter_cons_of_neg h]; rfl
/-! Of. -/
def ofE (L : List Ofr) (nx : Int) : Int := if 32 < L.length then 9 else if (∀ o ∈ L, mayO o = true ∧ 1 ≤ o.sq ∧ o.sq < nx) ∧ L.Pairwise (fun x y => x.sq < y.sq) ∧ 1 ≤ nx then 0 else 1
theorem ofE_good {L : List Ofr} {nx : Int} (h : ofE L nx = 0) (hn : nx ≤ 18446744073709551615) : (⟨L, nx⟩ : Bok).Good := by
  unfold ofE at h
  split at h
  · omega
  · split at h
    · rename_i h1 h2
      exact ⟨h2.2.1, h2.1, by simp only; omega, ⟨h2.2.2, hn⟩⟩
    · omega
end Go.Proofs.Ytacglcpjbepfnaa

/- Append from whatever can be read (nil too); a block's head as a row. -/
namespace Go.Proofs.Ytacglcpjbepfnaa
open Go.RowKit
set_option linter.unusedSimpArgs false
set_option linter.unusedVariables false
theorem Heap.celRowA {W w : World} {l : List Thing} {g e size n m : Nat} {c : Array Value} (H : Heap W (Cel g c e :: l) w) (hc : c.size = m * size) (hn : n ≤ m) (hm : m ≤ maxLen) : Heap W (RowT e size (.slice (some ⟨g, 0, none⟩) n m) n (c.toList.take (n * size)) :: l) w := by
  have h2 : n * size ≤ m * size := Nat.mul_le_mul_right _ hn
  exact H.head (World.grownBy.refl _ _) ⟨by simp; omega, .inr ⟨g, m, c, rfl, Nat.zero_le _, H.blk List.mem_cons_self, hn, hm, by omega, rfl⟩⟩ (.inl rfl)
section
variable {ops : Array Oper} {rest : List Oper} {o : Oper} {a : Act} {w W : World} {l : List Thing} {Q : Exit → Act → World → Prop}
/-- append(s, x...), x whatever can be read. -/
theorem wpl_appendA {t e size bytes : Nat} {z : Value} (T : SlTy Try.prog t e size bytes z) (hgd : o.guard = none) {s x : Operand}
    (ho : o.op = .call { callee := .builtin .append, args := #[s, x], argTypes := #[t, t] }) {v : Value} (hs : a.eval s = v) {ao : Option Addr} {m c : Nat} (hx : a.eval x = .slice ao m c)
    {n : Nat} {xs news : List Value} (H : Heap W (RowT e size v n xs :: l) w) (hrd : Rd w ao news) (hl : news.length = m * size) (h1 : OneCells news)
    (h63 : n + m ≤ maxLen) (hbytes : (n + m) * bytes ≤ 140737488355328)
    (h : ∀ v' w', (v' = .slice none 0 0 ↔ v = .slice none 0 0 ∧ m = 0) → Heap W (RowT e size v' (n + m) (xs ++ news) :: l) w' → wpList Try.prog ops Q rest (a.put o.dst v') w') : wpList Try.prog ops Q (o :: rest) a w := by
  by_cases hm : m = 0
  · subst hm
    have hn0 : news = [] := List.eq_nil_of_length_eq_zero (by simpa using hl)
    subst hn0
    obtain ⟨i, hi, hz, hsi, hbi⟩ := T.inf
    have hr : (Builtin.append_ #[t, t] o.type #[v, .slice ao 0 c]).run Try.prog w = .ok v w := by
      rcases (H.ok _ List.mem_cons_self).2 with ⟨rfl, rfl⟩ | ⟨g, cap, cur, rfl, _, _, hnc, _⟩
      · cases ao <;> simp [Builtin.append_, run_underlying T.und, sizeOf, typeInfo, hi, Builtin.lenOf, Builtin.firstCells, loadCells, loadCellsFrom]
      · cases ao <;> simp [Builtin.append_, run_underlying T.und, sizeOf, typeInfo, hi, Builtin.lenOf, Builtin.firstCells, hnc, storeCells, loadCells, loadCellsFrom]
    refine wpList_plain hgd fun K hK => ?_
    unfold Oper.wp execOp
    simp only [ho, resolve, invoke, builtin, Sem.run_bind, Sem.run_pure, Result.andThen_ok, List.map_toArray, List.map_cons, List.map_nil, hs, hx, hr]
    exact hK _ _ (h v w ⟨fun e => ⟨e, rfl⟩, fun e => e.1⟩ (by rw [List.append_nil]; exact H))
  · obtain ⟨b, off, rfl, _⟩ := hrd.lt (by rw [hl]; have := T.pos; exact Nat.mul_pos (by omega) this)
    refine wpl_appendH T hgd ho hs hx H hrd hl h1 h63 hbytes fun v' w' H' => h v' w' ⟨fun e => ?_, fun e => absurd e.2 hm⟩ H'
    subst e
    obtain ⟨_, ⟨_, h0⟩ | ⟨g, cap, cur, hv, _⟩⟩ := H'.ok _ List.mem_cons_self
    · omega
    · cases hv
/-- s[:hi]. -/
theorem wpl_cutTo {t e size bytes : Nat} {z : Value} (T : SlTy Try.prog t e size bytes z) {dst : Option Tmp} {ty : TypeId} {pos : String} {after : Array Edge} {guard : Option (Nat × Bool)} {x y : Operand} (hw : Region.wanted ⟨dst, .slice t x none (some y) none, ty, pos, after, guard⟩ (yielded ops a.tmps) = true)
    {ao : Option Addr} {n c hi : Nat} {k : IntKind} (hx : a.eval x = .slice ao n c) (hy : a.eval y = .int k (hi : Int)) (hh : hi ≤ c) (h : wpList Try.prog ops Q rest (a.put dst (.slice ao hi c)) w) : wpList Try.prog ops Q (⟨dst, .slice t x none (some y) none, ty, pos, after, guard⟩ :: rest) a w := by
  refine wpl_pure hw _ (fun w => ?_) h
  have hr := run_cutTo (P := Try.prog) T ao n c hi k hh w
  have hs : (Instr.sliceAt t (.slice ao n c) none (some (.int k (hi : Int))) none).run Try.prog w = .ok (.slice ao hi c) w := by
    unfold Instr.sliceAt
    rw [Sem.run_bind, run_underlying T.und]
    simp only [Result.andThen_ok]
    exact hr
  unfold execOp
  simp only [hx, Option.map_some, hy, Option.map_none, Sem.run_bind, hs, Result.andThen_ok, Sem.run_pure]
/-- s[lo:hi]. -/
theorem wpl_cutBoth {t e size bytes : Nat} {z : Value} (T : SlTy Try.prog t e size bytes z) {dst : Option Tmp} {ty : TypeId} {pos : String} {after : Array Edge} {guard : Option (Nat × Bool)} {x y u : Operand} (hw : Region.wanted ⟨dst, .slice t x (some u) (some y) none, ty, pos, after, guard⟩ (yielded ops a.tmps) = true)
    {ao : Option Addr} {n c lo hi : Nat} {k k2 : IntKind} (hx : a.eval x = .slice ao n c) (hu : a.eval u = .int k (lo : Int)) (hy : a.eval y = .int k2 (hi : Int)) (hl : lo ≤ hi) (hh : hi ≤ c) {ao2 : Option Addr} {m c2 : Nat} (he : cutA ao c lo size = ao2) (hm : hi - lo = m) (hc2 : c - lo = c2) (h : wpList Try.prog ops Q rest (a.put dst (.slice ao2 m c2)) w) : wpList Try.prog ops Q (⟨dst, .slice t x (some u) (some y) none, ty, pos, after, guard⟩ :: rest) a w := by
  subst he hm hc2
  refine wpl_pure hw _ (fun w => ?_) h
  have hr := run_cut (P := Try.prog) T ao n c lo hi k k2 hl hh w
  have hs : (Instr.sliceAt t (.slice ao n c) (some (.int k (lo : Int))) (some (.int k2 (hi : Int))) none).run Try.prog w = .ok (.slice (cutA ao c lo size) (hi - lo) (c - lo)) w := by
    unfold Instr.sliceAt
    rw [Sem.run_bind, run_underlying T.und]
    simp only [Result.andThen_ok]
    exact hr
  unfold execOp
  simp only [hx, Option.map_some, hu, hy, Option.map_none, Sem.run_bind, hs, Result.andThen_ok, Sem.run_pure]
theorem wpQ_loadRdR0 {T n : Nat} {z : Array Value} {dst : Option Tmp} {ty : TypeId} {pos : String} {after : Array Edge} {guard : Option (Nat × Bool)} {x : Operand} {b k : Nat} {K : Act → Prop} {H : Heap W l w} (RT : RowTy T n z) (hw : Region.wanted ⟨dst, .load T x, ty, pos, after, guard⟩ (yielded ops a.tmps) = true) (hx : a.eval x = .pointer (some ⟨b, k, none⟩))
    {xs : List Value} {c1 : Array Value} (R : ∀ w', Heap W l w' → Rd w' (some ⟨b, 0, none⟩) xs) (hn : k + n ≤ xs.length) (h0 : 0 < n) (hv : ((xs.drop k).take n).toArray = c1)
    (h : wpQuiet Try.prog ops (fun w' => ∃ d, w' = H.any d) K rest (a.put dst (.agg c1))) : wpQuiet Try.prog ops (fun w' => ∃ d, w' = H.any d) K (⟨dst, .load T x, ty, pos, after, guard⟩ :: rest) a :=
  wpQ_loadRdR RT hw hx R (Nat.zero_add k).symm hn h0 hv h
end
end Go.Proofs.Ytacglcpjbepfnaa
