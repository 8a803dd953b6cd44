/- Rows of one's own, written in place; rows with all their room. -/
import Derived.Test.YtacglcpjbepfnaaHeapSlide
namespace Go.Proofs.Ytacglcpjbepfnaa
open Go.RowKit
set_option linter.unusedSimpArgs false
set_option linter.unusedVariables false
/-- A row with all its room. -/
def FullT (e size : Nat) (a : Option Addr) (n c : Nat) (P : List Value → Prop) : Thing :=
  ⟨(Value.slice a n c).ownBlock, fun w => n ≤ c ∧ c ≤ maxLen ∧ ∃ xs, Own w 0 e size (.slice a c c) c xs ∧ P xs, fun w w' h ⟨hn, hm, xs, ho, hp⟩ => ⟨hn, hm, xs, ho.same fun k hk => h k (by cases a <;> exact hk), hp⟩⟩
theorem Own.full {w : World} {e size n c : Nat} {a : Option Addr} {xs : List Value} (h : Own w 0 e size (.slice a n c) n xs) : n ≤ c ∧ c ≤ maxLen ∧ ∃ ys, Own w 0 e size (.slice a c c) c ys := by
  obtain ⟨hl, ⟨hv, hn⟩ | ⟨g, off, cap, cur, hv, hb, hg, hnc, hcm, hs, ht⟩⟩ := h
  · simp only [Value.slice.injEq] at hv
    obtain ⟨rfl, rfl, rfl⟩ := hv
    exact ⟨Nat.le_refl _, by unfold maxLen; omega, [], by simp, .inl ⟨rfl, rfl⟩⟩
  · simp only [Value.slice.injEq, true_and] at hv
    obtain ⟨rfl, rfl⟩ := hv
    refine ⟨hnc, hcm, (cur.toList.drop off).take (c * size), ?_, .inr ⟨g, off, c, cur, rfl, hb, hg, Nat.le_refl _, hcm, hs, rfl⟩⟩
    simp
    omega
section
variable {W w : World} {l : List Thing} {e size n c : Nat} {a : Option Addr} {xs : List Value} {P Q : List Value → Prop}
theorem Heap.toFull (H : Heap W (OwnT e size (.slice a n c) n xs :: l) w) : Heap W (FullT e size a n c (fun _ => True) :: l) w := by
  obtain ⟨h1, h2, ys, h3⟩ := Own.full (H.ok _ List.mem_cons_self)
  exact H.head (World.grownBy.refl _ _) ⟨h1, h2, ys, h3, trivial⟩ (.inl rfl)
theorem Heap.openFull (H : Heap W (FullT e size a n c P :: l) w) : ∃ xs, P xs ∧ n ≤ c ∧ c ≤ maxLen ∧ xs.length = c * size ∧ (a = none → c = 0) ∧ Heap W (OwnT e size (.slice a c c) c xs :: l) w := by
  obtain ⟨h1, h2, xs, h3, h4⟩ := H.ok _ List.mem_cons_self
  refine ⟨xs, h4, h1, h2, h3.1, fun e => ?_, H.head (World.grownBy.refl _ _) h3 (.inl (by cases a <;> rfl))⟩
  subst e
  obtain ⟨_, ⟨hv, _⟩ | ⟨g, off, cap, cur, hv, _⟩⟩ := h3
  · simp only [Value.slice.injEq] at hv; exact hv.2.2
  · simp at hv
theorem Heap.shutFull (H : Heap W (OwnT e size (.slice a c c) c xs :: l) w) (hn : n ≤ c) (hc : c ≤ maxLen) (hP : P xs) : Heap W (FullT e size a n c P :: l) w :=
  H.head (World.grownBy.refl _ _) ⟨hn, hc, xs, H.ok _ List.mem_cons_self, hP⟩ (.inl (by cases a <;> rfl))
theorem Heap.clipOwn (H : Heap W (OwnT e size (.slice a n c) n xs :: l) w) : Heap W (OwnT e size (.slice a n n) n xs :: l) w :=
  H.head (World.grownBy.refl _ _) (Own.clip (H.ok _ List.mem_cons_self)) (.inl (by cases a <;> rfl))
theorem OwnT.room (h : (OwnT e size (.slice a n c) n xs).ok w) : n ≤ c ∧ c ≤ maxLen := ⟨(Own.full h).1, (Own.full h).2.1⟩
theorem OwnT.len {v : Value} (h : (OwnT e size v n xs).ok w) : xs.length = n * size := h.1
end
theorem Own.put {w : World} {g off n c e size : Nat} {xs : List Value} (h : Own w 0 e size (.slice (some ⟨g, off, none⟩) n c) n xs) {cur : Array Value} {t : TypeId} (hb : blk w g = some (.cells cur t (0, 0))) (j : Nat) (c2 : Array Value) (hj : j + c2.size ≤ xs.length) :
    Own (setBlk w g (splice cur (off + j) c2)) 0 e size (.slice (some ⟨g, off, none⟩) n c) n (xs.take j ++ c2.toList ++ xs.drop (j + c2.size)) := by
  obtain ⟨hl, ⟨hv, _⟩ | ⟨g', off', cap, cur', hv, hb', hg, hnc, hcm, hs, ht⟩⟩ := h
  · cases hv
  · simp only [Value.slice.injEq, Option.some.injEq, Addr.mk.injEq, true_and] at hv
    obtain ⟨⟨rfl, rfl, _⟩, rfl⟩ := hv
    have hb2 : w.heap[g]? = some (.cells cur t (0, 0)) := hb
    rw [hg] at hb2
    cases hb2
    have hnm : n * size ≤ c * size := Nat.mul_le_mul_right _ hnc
    refine ⟨by simp; omega, .inr ⟨g, off, c, splice cur (off + j) c2, rfl, hb', setBlk_same w g _ cur _ _ hg, hnc, hcm, ?_, ?_⟩⟩
    · unfold splice
      simp
      omega
    · unfold splice
      rw [List.toList_toArray]
      apply List.ext_getElem?
      intro i
      have hxi : ∀ i, i < n * size → xs[i]? = cur.toList[off + i]? := fun i hi => by
        rw [← ht, List.getElem?_take, if_pos hi, List.getElem?_drop]
      have hsz : cur.toList.length = cur.size := Array.length_toList
      rw [List.getElem?_take]
      by_cases hi : i < n * size
      · rw [if_pos hi, List.getElem?_drop]
        have hA : (cur.toList.take (off + j)).length = off + j := by simp; omega
        have hB : (xs.take j).length = j := by simp; omega
        by_cases h1 : i < j
        · rw [List.append_assoc, List.getElem?_append_left (by rw [hA]; omega), List.append_assoc, List.getElem?_append_left (by rw [hB]; omega), List.getElem?_take, if_pos (by omega), List.getElem?_take, if_pos h1, hxi i hi]
        · rw [List.append_assoc, List.append_assoc, List.getElem?_append_right (l₁ := cur.toList.take (off + j)) (by rw [hA]; omega), List.getElem?_append_right (l₁ := xs.take j) (by rw [hB]; omega), hA, hB, show off + i - (off + j) = i - j by omega]
          by_cases h2 : i - j < c2.size
          · rw [List.getElem?_append_left (by simpa using h2), List.getElem?_append_left (by simpa using h2)]
          · rw [List.getElem?_append_right (by simp; omega), List.getElem?_append_right (by simp; omega), List.getElem?_drop, List.getElem?_drop, Array.length_toList, show off + j + c2.size + (i - j - c2.size) = off + i by omega, show j + c2.size + (i - j - c2.size) = i by omega, hxi i hi]
      · rw [if_neg hi, List.getElem?_eq_none (by simp; omega)]
theorem splice_one {cur : Array Value} {k : Nat} {v : Value} (h : k < cur.size) : splice cur k #[v] = cur.setIfInBounds k v := by
  unfold splice
  apply Array.ext_getElem?
  intro i
  rw [Array.getElem?_setIfInBounds, List.getElem?_toArray]
  have hA : (cur.toList.take k).length = k := by simp; omega
  by_cases h1 : i < k
  · rw [List.append_assoc, List.getElem?_append_left (by rw [hA]; omega), List.getElem?_take, if_pos h1, if_neg (by omega)]
    simp
  · rw [List.append_assoc, List.getElem?_append_right (by rw [hA]; omega), hA]
    by_cases h2 : i = k
    · subst h2; simp [h]
    · rw [if_neg (by omega), List.getElem?_append_right (by simp; omega), List.getElem?_drop]
      simp
      congr 1
      omega
theorem list_put_one {xs : List Value} {j : Nat} {v : Value} (h : j < xs.length) : xs.take j ++ [v] ++ xs.drop (j + 1) = xs.set j v := by
  rw [List.append_assoc, List.set_eq_take_append_cons_drop, if_pos h]; rfl
theorem Own.blkOf {w : World} {g off n c e size : Nat} {xs : List Value} (h : Own w 0 e size (.slice (some ⟨g, off, none⟩) n c) n xs) : ∃ cur, blk w g = some (.cells cur e (0, 0)) ∧ off + xs.length ≤ cur.size := by
  obtain ⟨hl, ⟨hv, _⟩ | ⟨g', off', cap, cur', hv, hb', hg, hnc, hcm, hs, ht⟩⟩ := h
  · cases hv
  · simp only [Value.slice.injEq, Option.some.injEq, Addr.mk.injEq, true_and] at hv
    obtain ⟨⟨rfl, rfl, _⟩, rfl⟩ := hv
    have hnm : n * size ≤ c * size := Nat.mul_le_mul_right _ hnc
    exact ⟨cur', hg, by omega⟩
theorem putOwnH {W w : World} {l l' : List Thing} {g off n c e size : Nat} {xs ys : List Value} (H : Heap W l w) {cur c2 : Array Value} (hb : blk w g = some (.cells cur e (0, 0))) {j : Nat} (hj : j + c2.size ≤ xs.length) (hy : xs.take j ++ c2.toList ++ xs.drop (j + c2.size) = ys)
    (r : Repl l (OwnT e size (.slice (some ⟨g, off, none⟩) n c) n xs) (OwnT e size (.slice (some ⟨g, off, none⟩) n c) n ys) l') : Heap W l' (setBlk w g (splice cur (off + j) c2)) :=
  H.upd r grown_setBlk (by subst hy; exact Own.put (H.ok _ r.mem) hb j c2 hj) (.inl rfl)
section
variable {ops : Array Oper} {rest : List Oper} {o : Oper} {a : Act} {w W : World} {l l' : List Thing} {Q : Exit → Act → World → Prop}
/-- s[i] = v, of one cell. -/
theorem wpl_storeOwnC {T e : TypeId} {dst : Option Tmp} {ty : TypeId} {pos : String} {after : Array Edge} {guard : Option (Nat × Bool)} {x y : Operand} {g ad off n c size j : Nat} {v : Value} {xs : List Value} (CT : CellTy T) (hw : Region.wanted ⟨dst, .store T x y, ty, pos, after, guard⟩ (yielded ops a.tmps) = true) (hx : a.eval x = .pointer (some ⟨g, ad, none⟩)) (hy : a.eval y = v) (hc : v.cells = #[v] ∧ v.oneCell' = true)
    (H : Heap W l w) (m : OwnT e size (.slice (some ⟨g, off, none⟩) n c) n xs ∈ l) (hk : ad = off + j) (hj : j < xs.length) (r : Repl l (OwnT e size (.slice (some ⟨g, off, none⟩) n c) n xs) (OwnT e size (.slice (some ⟨g, off, none⟩) n c) n (xs.set j v)) l')
    (h : ∀ w', Heap W l' w' → wpList Try.prog ops Q rest (a.put dst undef) w') : wpList Try.prog ops Q (⟨dst, .store T x y, ty, pos, after, guard⟩ :: rest) a w := by
  subst hk
  obtain ⟨cur, hb, hs⟩ := Own.blkOf (H.ok _ m)
  have h2 := putOwnH H (j := j) (c2 := #[v]) hb (by simp; omega) (list_put_one hj) r
  rw [splice_one (by omega)] at h2
  exact wpl_storeC CT hw hx hy hc hb (by omega) rfl ⟨⟨_, hb⟩, rfl⟩ (h _ h2)
/-- s[i] = v, of a row. -/
theorem wpl_storeOwnR {T N e : Nat} {z : Array Value} {dst : Option Tmp} {ty : TypeId} {pos : String} {after : Array Edge} {guard : Option (Nat × Bool)} {x y : Operand} {g ad off n c size j : Nat} {c2 : Array Value} {xs ys : List Value} (RT : RowTy T N z) (hw : Region.wanted ⟨dst, .store T x y, ty, pos, after, guard⟩ (yielded ops a.tmps) = true) (hx : a.eval x = .pointer (some ⟨g, ad, none⟩)) (hy : a.eval y = .agg c2) (hc : Cells N c2)
    (H : Heap W l w) (m : OwnT e size (.slice (some ⟨g, off, none⟩) n c) n xs ∈ l) (hk : ad = off + j) (hj : j + N ≤ xs.length) (hys : xs.take j ++ c2.toList ++ xs.drop (j + N) = ys) (r : Repl l (OwnT e size (.slice (some ⟨g, off, none⟩) n c) n xs) (OwnT e size (.slice (some ⟨g, off, none⟩) n c) n ys) l')
    (h : ∀ w', Heap W l' w' → wpList Try.prog ops Q rest (a.put dst undef) w') : wpList Try.prog ops Q (⟨dst, .store T x y, ty, pos, after, guard⟩ :: rest) a w := by
  subst hk
  obtain ⟨cur, hb, hs⟩ := Own.blkOf (H.ok _ m)
  have hN := hc.1
  have h2 := putOwnH H (j := j) (c2 := c2) hb (by omega) (by rw [hN]; exact hys) r
  exact wpl_storeR RT hw hx hy hc hb (by omega) rfl ⟨⟨_, hb⟩, rfl⟩ (h _ h2)
theorem wpQ_loadRdR {T n : Nat} {z : Array Value} {dst : Option Tmp} {ty : TypeId} {pos : String} {after : Array Edge} {guard : Option (Nat × Bool)} {x : Operand} {b off : Nat} {K : Act → Prop} {H : Heap W l w} (RT : RowTy T n z) (hw : Region.wanted ⟨dst, .load T x, ty, pos, after, guard⟩ (yielded ops a.tmps) = true) (hx : a.eval x = .pointer (some ⟨b, off, none⟩))
    {o k : Nat} {xs : List Value} {c1 : Array Value} (R : ∀ w', Heap W l w' → Rd w' (some ⟨b, o, none⟩) xs) (hk : off = o + k) (hn : k + n ≤ xs.length) (h0 : 0 < n) (hv : ((xs.drop k).take n).toArray = c1)
    (h : wpQuiet Try.prog ops (fun w' => ∃ d, w' = H.any d) K rest (a.put dst (.agg c1))) : wpQuiet Try.prog ops (fun w' => ∃ d, w' = H.any d) K (⟨dst, .load T x, ty, pos, after, guard⟩ :: rest) a := by
  subst hk
  refine BigFrame.wpQuiet_want hw fun K hK => ⟨_, ?_, hK _ h⟩
  rintro _ ⟨d, rfl⟩
  obtain ⟨cs, t, f, hb, hs, he⟩ := rd_block (R _ (H.any_heap d)) hn h0
  unfold Oper.quietAt execOp
  simp only [hx, Sem.run_bind, run_loadR RT hb hs, he, hv]
  exact ⟨rfl, rfl⟩
theorem wpQ_loadAt {T : TypeId} {dst : Option Tmp} {ty : TypeId} {pos : String} {after : Array Edge} {guard : Option (Nat × Bool)} {x : Operand} {b off : Nat} {K : Act → Prop} {H : Heap W l w} (CT : CellTy T) (hw : Region.wanted ⟨dst, .load T x, ty, pos, after, guard⟩ (yielded ops a.tmps) = true) (hx : a.eval x = .pointer (some ⟨b, off, none⟩))
    {v : Value} (hc : ∀ w', Heap W l w' → w'.cell? ⟨b, off, none⟩ = some v)
    (h : wpQuiet Try.prog ops (fun w' => ∃ d, w' = H.any d) K rest (a.put dst v)) : wpQuiet Try.prog ops (fun w' => ∃ d, w' = H.any d) K (⟨dst, .load T x, ty, pos, after, guard⟩ :: rest) a := by
  refine BigFrame.wpQuiet_want hw fun K hK => ⟨v, ?_, hK _ h⟩
  rintro _ ⟨d, rfl⟩
  have hv := hc _ (H.any_heap d)
  simp only [World.cell?, if_true] at hv
  cases hb : (H.any d).heap[b]? with
  | none => rw [hb] at hv; cases hv
  | some o =>
    rw [hb] at hv
    cases o <;> first | (cases hv; done) | skip
    rename_i cs t f
    unfold Oper.quietAt execOp
    simp only [hx, Sem.run_bind, run_loadC CT hb hv]
    exact ⟨rfl, rfl⟩
end
theorem RowT.form0 {w : World} {e size n : Nat} {v : Value} {xs : List Value} (h : (RowT e size v n xs).ok w) : ∃ a c, v = .slice a n c ∧ n ≤ c ∧ c ≤ maxLen := by
  obtain ⟨a, c, e, _, h1, h2, _⟩ := (Own.ofRow h).rd
  exact ⟨a, c, e, h1, h2⟩
theorem Heap.rowRd {W w : World} {l : List Thing} {e size n c : Nat} {a : Option Addr} {xs : List Value} (H : Heap W l w) (m : RowT e size (.slice a n c) n xs ∈ l) : Rd w a xs := by
  obtain ⟨a', c', he, hr, _⟩ := (Own.ofRow (H.ok _ m)).rd
  simp only [Value.slice.injEq, true_and] at he
  obtain ⟨rfl, _⟩ := he
  exact hr
end Go.Proofs.Ytacglcpjbepfnaa
