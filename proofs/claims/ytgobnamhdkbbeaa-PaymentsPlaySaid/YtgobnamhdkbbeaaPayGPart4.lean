/- Part 4 of what several laws stand on: Full, Ref05, Append, Ref05b, Ref05c, Ref05d, Bfs. -/
import Derived.Test.YtgobnamhdkbbeaaPayGPart3
/- Rows of one's own, written in place; rows with all their room. -/
namespace Go.Proofs.Ytgobnamhdkbbeaa
open Go.RowKit
set_option linter.unusedSimpArgs false
set_option linter.unusedVariables false
/-- A row with all its room. -/
def FullT (e size : Nat) (a : Option Addr) (n c : Nat) (P : List Value → Prop) : Thing :=
  ⟨(Value.slice a n c).ownBlock, fun w => n ≤ c ∧ c ≤ maxLen ∧ ∃ xs, Own w 0 e size (.slice a c c) c xs ∧ P xs, fun w w' h ⟨hn, hm, xs, ho, hp⟩ => ⟨hn, hm, xs, ho.same fun k hk => h k (by cases a <;> exact hk), hp⟩⟩
theorem Own.full {w : World} {e size n c : Nat} {a : Option Addr} {xs : List Value} (h : Own w 0 e size (.slice a n c) n xs) : n ≤ c ∧ c ≤ maxLen ∧ ∃ ys, Own w 0 e size (.slice a c c) c ys := by
  obtain ⟨hl, ⟨hv, hn⟩ | ⟨g, off, cap, cur, hv, hb, hg, hnc, hcm, hs, ht⟩⟩ := h
  · simp only [Value.slice.injEq] at hv
    obtain ⟨rfl, rfl, rfl⟩ := hv
    exact ⟨Nat.le_refl _, by unfold maxLen; omega, [], by simp, .inl ⟨rfl, rfl⟩⟩
  · simp only [Value.slice.injEq, true_and] at hv
    obtain ⟨rfl, rfl⟩ := hv
    refine ⟨hnc, hcm, (cur.toList.drop off).take (c * size), ?_, .inr ⟨g, off, c, cur, rfl, hb, hg, Nat.le_refl _, hcm, hs, rfl⟩⟩
    simp
    omega
section
variable {W w : World} {l : List Thing} {e size n c : Nat} {a : Option Addr} {xs : List Value} {P Q : List Value → Prop}
theorem Heap.toFull (H : Heap W (OwnT e size (.slice a n c) n xs :: l) w) : Heap W (FullT e size a n c (fun _ => True) :: l) w := by
  obtain ⟨h1, h2, ys, h3⟩ := Own.full (H.ok _ List.mem_cons_self)
  exact H.head (World.grownBy.refl _ _) ⟨h1, h2, ys, h3, trivial⟩ (.inl rfl)
theorem Heap.openFull (H : Heap W (FullT e size a n c P :: l) w) : ∃ xs, P xs ∧ n ≤ c ∧ c ≤ maxLen ∧ xs.length = c * size ∧ (a = none → c = 0) ∧ Heap W (OwnT e size (.slice a c c) c xs :: l) w := by
  obtain ⟨h1, h2, xs, h3, h4⟩ := H.ok _ List.mem_cons_self
  refine ⟨xs, h4, h1, h2, h3.1, fun e => ?_, H.head (World.grownBy.refl _ _) h3 (.inl (by cases a <;> rfl))⟩
  subst e
  obtain ⟨_, ⟨hv, _⟩ | ⟨g, off, cap, cur, hv, _⟩⟩ := h3
  · simp only [Value.slice.injEq] at hv; exact hv.2.2
  · simp at hv
theorem Heap.shutFull (H : Heap W (OwnT e size (.slice a c c) c xs :: l) w) (hn : n ≤ c) (hc : c ≤ maxLen) (hP : P xs) : Heap W (FullT e size a n c P :: l) w :=
  H.head (World.grownBy.refl _ _) ⟨hn, hc, xs, H.ok _ List.mem_cons_self, hP⟩ (.inl (by cases a <;> rfl))
theorem Heap.clipOwn (H : Heap W (OwnT e size (.slice a n c) n xs :: l) w) : Heap W (OwnT e size (.slice a n n) n xs :: l) w :=
  H.head (World.grownBy.refl _ _) (Own.clip (H.ok _ List.mem_cons_self)) (.inl (by cases a <;> rfl))
theorem OwnT.room (h : (OwnT e size (.slice a n c) n xs).ok w) : n ≤ c ∧ c ≤ maxLen := ⟨(Own.full h).1, (Own.full h).2.1⟩
theorem OwnT.len {v : Value} (h : (OwnT e size v n xs).ok w) : xs.length = n * size := h.1
end
theorem Own.put {w : World} {g off n c e size : Nat} {xs : List Value} (h : Own w 0 e size (.slice (some ⟨g, off, none⟩) n c) n xs) {cur : Array Value} {t : TypeId} (hb : blk w g = some (.cells cur t (0, 0))) (j : Nat) (c2 : Array Value) (hj : j + c2.size ≤ xs.length) :
    Own (setBlk w g (splice cur (off + j) c2)) 0 e size (.slice (some ⟨g, off, none⟩) n c) n (xs.take j ++ c2.toList ++ xs.drop (j + c2.size)) := by
  obtain ⟨hl, ⟨hv, _⟩ | ⟨g', off', cap, cur', hv, hb', hg, hnc, hcm, hs, ht⟩⟩ := h
  · cases hv
  · simp only [Value.slice.injEq, Option.some.injEq, Addr.mk.injEq, true_and] at hv
    obtain ⟨⟨rfl, rfl, _⟩, rfl⟩ := hv
    have hb2 : w.heap[g]? = some (.cells cur t (0, 0)) := hb
    rw [hg] at hb2
    cases hb2
    have hnm : n * size ≤ c * size := Nat.mul_le_mul_right _ hnc
    refine ⟨by simp; omega, .inr ⟨g, off, c, splice cur (off + j) c2, rfl, hb', setBlk_same w g _ cur _ _ hg, hnc, hcm, ?_, ?_⟩⟩
    · unfold splice
      simp
      omega
    · unfold splice
      rw [List.toList_toArray]
      apply List.ext_getElem?
      intro i
      have hxi : ∀ i, i < n * size → xs[i]? = cur.toList[off + i]? := fun i hi => by
        rw [← ht, List.getElem?_take, if_pos hi, List.getElem?_drop]
      have hsz : cur.toList.length = cur.size := Array.length_toList
      rw [List.getElem?_take]
      by_cases hi : i < n * size
      · rw [if_pos hi, List.getElem?_drop]
        have hA : (cur.toList.take (off + j)).length = off + j := by simp; omega
        have hB : (xs.take j).length = j := by simp; omega
        by_cases h1 : i < j
        · rw [List.append_assoc, List.getElem?_append_left (by rw [hA]; omega), List.append_assoc, List.getElem?_append_left (by rw [hB]; omega), List.getElem?_take, if_pos (by omega), List.getElem?_take, if_pos h1, hxi i hi]
        · rw [List.append_assoc, List.append_assoc, List.getElem?_append_right (l₁ := cur.toList.take (off + j)) (by rw [hA]; omega), List.getElem?_append_right (l₁ := xs.take j) (by rw [hB]; omega), hA, hB, show off + i - (off + j) = i - j by omega]
          by_cases h2 : i - j < c2.size
          · rw [List.getElem?_append_left (by simpa using h2), List.getElem?_append_left (by simpa using h2)]
          · rw [List.getElem?_append_right (by simp; omega), List.getElem?_append_right (by simp; omega), List.getElem?_drop, List.getElem?_drop, Array.length_toList, show off + j + c2.size + (i - j - c2.size) = off + i by omega, show j + c2.size + (i - j - c2.size) = i by omega, hxi i hi]
      · rw [if_neg hi, List.getElem?_eq_none (by simp; omega)]
theorem splice_one {cur : Array Value} {k : Nat} {v : Value} (h : k < cur.size) : splice cur k #[v] = cur.setIfInBounds k v := by
  unfold splice
  apply Array.ext_getElem?
  intro i
  rw [Array.getElem?_setIfInBounds, List.getElem?_toArray]
  have hA : (cur.toList.take k).length = k := by simp; omega
  by_cases h1 : i < k
  · rw [List.append_assoc, List.getElem?_append_left (by rw [hA]; omega), List.getElem?_take, if_pos h1, if_neg (by omega)]
    simp
  · rw [List.append_assoc, List.getElem?_append_right (by rw [hA]; omega), hA]
    by_cases h2 : i = k
    · subst h2; simp [h]
    · rw [if_neg (by omega), List.getElem?_append_right (by simp; omega), List.getElem?_drop]
      simp
      congr 1
      omega
theorem list_put_one {xs : List Value} {j : Nat} {v : Value} (h : j < xs.length) : xs.take j ++ [v] ++ xs.drop (j + 1) = xs.set j v := by
  rw [List.append_assoc, List.set_eq_take_append_cons_drop, if_pos h]; rfl
theorem Own.blkOf {w : World} {g off n c e size : Nat} {xs : List Value} (h : Own w 0 e size (.slice (some ⟨g, off, none⟩) n c) n xs) : ∃ cur, blk w g = some (.cells cur e (0, 0)) ∧ off + xs.length ≤ cur.size := by
  obtain ⟨hl, ⟨hv, _⟩ | ⟨g', off', cap, cur', hv, hb', hg, hnc, hcm, hs, ht⟩⟩ := h
  · cases hv
  · simp only [Value.slice.injEq, Option.some.injEq, Addr.mk.injEq, true_and] at hv
    obtain ⟨⟨rfl, rfl, _⟩, rfl⟩ := hv
    have hnm : n * size ≤ c * size := Nat.mul_le_mul_right _ hnc
    exact ⟨cur', hg, by omega⟩
theorem putOwnH {W w : World} {l l' : List Thing} {g off n c e size : Nat} {xs ys : List Value} (H : Heap W l w) {cur c2 : Array Value} (hb : blk w g = some (.cells cur e (0, 0))) {j : Nat} (hj : j + c2.size ≤ xs.length) (hy : xs.take j ++ c2.toList ++ xs.drop (j + c2.size) = ys)
    (r : Repl l (OwnT e size (.slice (some ⟨g, off, none⟩) n c) n xs) (OwnT e size (.slice (some ⟨g, off, none⟩) n c) n ys) l') : Heap W l' (setBlk w g (splice cur (off + j) c2)) :=
  H.upd r grown_setBlk (by subst hy; exact Own.put (H.ok _ r.mem) hb j c2 hj) (.inl rfl)
section
variable {ops : Array Oper} {rest : List Oper} {o : Oper} {a : Act} {w W : World} {l l' : List Thing} {Q : Exit → Act → World → Prop}
/-- s[i] = v, of one cell. -/
theorem wpl_storeOwnC {T e : TypeId} {dst : Option Tmp} {ty : TypeId} {pos : String} {after : Array Edge} {guard : Option (Nat × Bool)} {x y : Operand} {g ad off n c size j : Nat} {v : Value} {xs : List Value} (CT : CellTy T) (hw : Region.wanted ⟨dst, .store T x y, ty, pos, after, guard⟩ (yielded ops a.tmps) = true) (hx : a.eval x = .pointer (some ⟨g, ad, none⟩)) (hy : a.eval y = v) (hc : v.cells = #[v] ∧ v.oneCell' = true)
    (H : Heap W l w) (m : OwnT e size (.slice (some ⟨g, off, none⟩) n c) n xs ∈ l) (hk : ad = off + j) (hj : j < xs.length) (r : Repl l (OwnT e size (.slice (some ⟨g, off, none⟩) n c) n xs) (OwnT e size (.slice (some ⟨g, off, none⟩) n c) n (xs.set j v)) l')
    (h : ∀ w', Heap W l' w' → wpList Try.prog ops Q rest (a.put dst undef) w') : wpList Try.prog ops Q (⟨dst, .store T x y, ty, pos, after, guard⟩ :: rest) a w := by
  subst hk
  obtain ⟨cur, hb, hs⟩ := Own.blkOf (H.ok _ m)
  have h2 := putOwnH H (j := j) (c2 := #[v]) hb (by simp; omega) (list_put_one hj) r
  rw [splice_one (by omega)] at h2
  exact wpl_storeC CT hw hx hy hc hb (by omega) rfl ⟨⟨_, hb⟩, rfl⟩ (h _ h2)
/-- s[i] = v, of a row. -/
theorem wpl_storeOwnR {T N e : Nat} {z : Array Value} {dst : Option Tmp} {ty : TypeId} {pos : String} {after : Array Edge} {guard : Option (Nat × Bool)} {x y : Operand} {g ad off n c size j : Nat} {c2 : Array Value} {xs ys : List Value} (RT : RowTy T N z) (hw : Region.wanted ⟨dst, .store T x y, ty, pos, after, guard⟩ (yielded ops a.tmps) = true) (hx : a.eval x = .pointer (some ⟨g, ad, none⟩)) (hy : a.eval y = .agg c2) (hc : Cells N c2)
    (H : Heap W l w) (m : OwnT e size (.slice (some ⟨g, off, none⟩) n c) n xs ∈ l) (hk : ad = off + j) (hj : j + N ≤ xs.length) (hys : xs.take j ++ c2.toList ++ xs.drop (j + N) = ys) (r : Repl l (OwnT e size (.slice (some ⟨g, off, none⟩) n c) n xs) (OwnT e size (.slice (some ⟨g, off, none⟩) n c) n ys) l')
    (h : ∀ w', Heap W l' w' → wpList Try.prog ops Q rest (a.put dst undef) w') : wpList Try.prog ops Q (⟨dst, .store T x y, ty, pos, after, guard⟩ :: rest) a w := by
  subst hk
  obtain ⟨cur, hb, hs⟩ := Own.blkOf (H.ok _ m)
  have hN := hc.1
  have h2 := putOwnH H (j := j) (c2 := c2) hb (by omega) (by rw [hN]; exact hys) r
  exact wpl_storeR RT hw hx hy hc hb (by omega) rfl ⟨⟨_, hb⟩, rfl⟩ (h _ h2)
theorem wpQ_loadRdR {T n : Nat} {z : Array Value} {dst : Option Tmp} {ty : TypeId} {pos : String} {after : Array Edge} {guard : Option (Nat × Bool)} {x : Operand} {b off : Nat} {K : Act → Prop} {H : Heap W l w} (RT : RowTy T n z) (hw : Region.wanted ⟨dst, .load T x, ty, pos, after, guard⟩ (yielded ops a.tmps) = true) (hx : a.eval x = .pointer (some ⟨b, off, none⟩))
    {o k : Nat} {xs : List Value} {c1 : Array Value} (R : ∀ w', Heap W l w' → Rd w' (some ⟨b, o, none⟩) xs) (hk : off = o + k) (hn : k + n ≤ xs.length) (h0 : 0 < n) (hv : ((xs.drop k).take n).toArray = c1)
    (h : wpQuiet Try.prog ops (fun w' => ∃ d, w' = H.any d) K rest (a.put dst (.agg c1))) : wpQuiet Try.prog ops (fun w' => ∃ d, w' = H.any d) K (⟨dst, .load T x, ty, pos, after, guard⟩ :: rest) a := by
  subst hk
  refine BigFrame.wpQuiet_want hw fun K hK => ⟨_, ?_, hK _ h⟩
  rintro _ ⟨d, rfl⟩
  obtain ⟨cs, t, f, hb, hs, he⟩ := rd_block (R _ (H.any_heap d)) hn h0
  unfold Oper.quietAt execOp
  simp only [hx, Sem.run_bind, run_loadR RT hb hs, he, hv]
  exact ⟨rfl, rfl⟩
theorem wpQ_loadAt {T : TypeId} {dst : Option Tmp} {ty : TypeId} {pos : String} {after : Array Edge} {guard : Option (Nat × Bool)} {x : Operand} {b off : Nat} {K : Act → Prop} {H : Heap W l w} (CT : CellTy T) (hw : Region.wanted ⟨dst, .load T x, ty, pos, after, guard⟩ (yielded ops a.tmps) = true) (hx : a.eval x = .pointer (some ⟨b, off, none⟩))
    {v : Value} (hc : ∀ w', Heap W l w' → w'.cell? ⟨b, off, none⟩ = some v)
    (h : wpQuiet Try.prog ops (fun w' => ∃ d, w' = H.any d) K rest (a.put dst v)) : wpQuiet Try.prog ops (fun w' => ∃ d, w' = H.any d) K (⟨dst, .load T x, ty, pos, after, guard⟩ :: rest) a := by
  refine BigFrame.wpQuiet_want hw fun K hK => ⟨v, ?_, hK _ h⟩
  rintro _ ⟨d, rfl⟩
  have hv := hc _ (H.any_heap d)
  simp only [World.cell?, if_true] at hv
  cases hb : (H.any d).heap[b]? with
  | none => rw [hb] at hv; cases hv
  | some o =>
    rw [hb] at hv
    cases o <;> first | (cases hv; done) | skip
    rename_i cs t f
    unfold Oper.quietAt execOp
    simp only [hx, Sem.run_bind, run_loadC CT hb hv]
    exact ⟨rfl, rfl⟩
end
theorem RowT.form0 {w : World} {e size n : Nat} {v : Value} {xs : List Value} (h : (RowT e size v n xs).ok w) : ∃ a c, v = .slice a n c ∧ n ≤ c ∧ c ≤ maxLen := by
  obtain ⟨a, c, e, _, h1, h2, _⟩ := (Own.ofRow h).rd
  exact ⟨a, c, e, h1, h2⟩
theorem Heap.rowRd {W w : World} {l : List Thing} {e size n c : Nat} {a : Option Addr} {xs : List Value} (H : Heap W l w) (m : RowT e size (.slice a n c) n xs ∈ l) : Rd w a xs := by
  obtain ⟨a', c', he, hr, _⟩ := (Own.ofRow (H.ok _ m)).rd
  simp only [Value.slice.injEq, true_and] at he
  obtain ⟨rfl, _⟩ := he
  exact hr
end Go.Proofs.Ytgobnamhdkbbeaa

/- countinghouseref05: a graph as a list of edges. -/
namespace Go.Proofs.Ytgobnamhdkbbeaa
open Go.RowKit
set_option linter.unusedSimpArgs false
set_option linter.unusedVariables false
theorem cell_flows : CellTy 24 := ⟨⟨_, Try.underlying24, rfl⟩, by kernel_rfl⟩
abbrev rgC (v : Value) : Array Value := #[v]
theorem rgC_g (v : Value) : (rgC v)[0]? = some v := rfl
/-- The graph's cell, and its edges. -/
abbrev RgT (p : Nat) (v : Value) : Thing := Cel p (rgC v) 152
abbrev FlT (v : Value) (n : Nat) (F : List Flw) : Thing := RowT 32 3 v n (flwL F)
/-- The first capacity of these ends. -/
def capL : List Flw → Nat → Nat → Int
  | [], _, _ => 0
  | x :: F, a, b => if x.f = a ∧ x.t = b then x.n else capL F a b
theorem capL_app (a b : Nat) : ∀ (F G : List Flw), capL (F ++ G) a b = if F.any (fun x => decide (x.f = a ∧ x.t = b)) then capL F a b else capL G a b
  | [], G => rfl
  | x :: F, G => by
    rw [List.cons_append, capL, capL, List.any_cons]
    by_cases h : x.f = a ∧ x.t = b
    · simp [h]
    · rw [if_neg h, capL_app a b F G]
      simp [h]
theorem rowE_any (c : Caps) (r a b : Nat) : ∀ k, (rowE c r k).any (fun x => decide (x.f = a ∧ x.t = b)) = decide (r = a ∧ b < k ∧ 0 < c a b)
  | 0 => by simp [rowE]
  | k + 1 => by
    rw [rowE, List.any_append, rowE_any c r a b k]
    by_cases h : 0 < c r k
    · rw [if_pos h]
      simp only [List.any_cons, List.any_nil, Bool.or_false]
      rw [Bool.eq_iff_iff]
      simp only [Bool.or_eq_true, decide_eq_true_eq]
      constructor
      · rintro (⟨h1, h2, h3⟩ | ⟨rfl, rfl⟩)
        · exact ⟨h1, by omega, h3⟩
        · exact ⟨rfl, by omega, h⟩
      · rintro ⟨rfl, h2, h3⟩
        by_cases e : k = b
        · exact .inr ⟨rfl, e⟩
        · exact .inl ⟨rfl, by omega, h3⟩
    · rw [if_neg h]
      simp only [List.any_nil, Bool.or_false]
      rw [Bool.eq_iff_iff]
      simp only [decide_eq_true_eq]
      constructor
      · rintro ⟨h1, h2, h3⟩; exact ⟨h1, by omega, h3⟩
      · rintro ⟨rfl, h2, h3⟩
        refine ⟨rfl, ?_, h3⟩
        have : b ≠ k := fun e => by subst e; exact h h3
        omega
theorem rowE_cap (c : Caps) (r a b : Nat) : ∀ k, capL (rowE c r k) a b = if r = a ∧ b < k ∧ 0 < c a b then c a b else 0
  | 0 => by simp [rowE, capL]
  | k + 1 => by
    rw [rowE, capL_app, rowE_any, rowE_cap c r a b k]
    by_cases h1 : r = a ∧ b < k ∧ 0 < c a b
    · rw [if_pos (by simpa using h1), if_pos h1, if_pos ⟨h1.1, by omega, h1.2.2⟩]
    · rw [if_neg (by simpa using h1)]
      by_cases h : 0 < c r k
      · rw [if_pos h]
        show (if r = a ∧ k = b then c r k else 0) = _
        by_cases h2 : r = a ∧ k = b
        · obtain ⟨rfl, rfl⟩ := h2
          rw [if_pos ⟨rfl, rfl⟩, if_pos ⟨rfl, by omega, h⟩]
        · rw [if_neg h2, if_neg]
          rintro ⟨e1, e2, e3⟩
          exact h1 ⟨e1, by have : b ≠ k := fun e => h2 ⟨e1, e.symm⟩
                           omega, e3⟩
      · rw [if_neg h]
        show (0 : Int) = _
        rw [if_neg]
        rintro ⟨rfl, e2, e3⟩
        exact h1 ⟨rfl, by have : b ≠ k := fun e => by subst e; exact h e3
                          omega, e3⟩
theorem matE_any (c : Caps) (a b : Nat) : ∀ k, (matE c k).any (fun x => decide (x.f = a ∧ x.t = b)) = decide (a < k ∧ b < 17 ∧ 0 < c a b)
  | 0 => by simp [matE]
  | k + 1 => by
    rw [matE, List.any_append, matE_any c a b k, rowE_any]
    rw [Bool.eq_iff_iff]
    simp only [Bool.or_eq_true, decide_eq_true_eq]
    constructor
    · rintro (⟨h1, h2, h3⟩ | ⟨rfl, h2, h3⟩)
      · exact ⟨by omega, h2, h3⟩
      · exact ⟨by omega, h2, h3⟩
    · rintro ⟨h1, h2, h3⟩
      by_cases e : k = a
      · exact .inr ⟨e, h2, h3⟩
      · exact .inl ⟨by omega, h2, h3⟩
theorem matE_cap (c : Caps) (a b : Nat) : ∀ k, capL (matE c k) a b = if a < k ∧ b < 17 ∧ 0 < c a b then c a b else 0
  | 0 => by simp [matE, capL]
  | k + 1 => by
    rw [matE, capL_app, matE_any, matE_cap c a b k, rowE_cap]
    by_cases h : a < k ∧ b < 17 ∧ 0 < c a b
    · rw [if_pos (by simpa using h), if_pos h, if_pos ⟨by omega, h.2⟩]
    · rw [if_neg (by simpa using h)]
      by_cases h2 : k = a ∧ b < 17 ∧ 0 < c a b
      · rw [if_pos h2, if_pos ⟨by omega, h2.2⟩]
      · rw [if_neg h2, if_neg]
        rintro ⟨h3, h4⟩
        by_cases e : k = a
        · exact h2 ⟨e, h4⟩
        · exact h ⟨by omega, h4⟩
/-- Capacities such as a graph has. -/
structure GoodC (c : Caps) : Prop where
  ge : ∀ a b, 0 ≤ c a b
  may : ∀ a b, 0 < c a b → mayP a = true ∧ mayP b = true
theorem GoodC.cap {c : Caps} (h : GoodC c) (a b : Nat) : capL (edgesOf c) a b = c a b := by
  unfold edgesOf
  rw [matE_cap]
  by_cases hp : 0 < c a b
  · have := h.may a b hp
    have h1 := mayP_true this.1
    have h2 := mayP_true this.2
    rw [if_pos ⟨by omega, by omega, hp⟩]
  · rw [if_neg (fun h => hp h.2.2)]
    have := h.ge a b
    omega
theorem GoodC.capOf {c : Caps} (h : GoodC c) (a b : Nat) : capOf c a b = c a b := by
  unfold Proofs.Ytgobnamhdkbbeaa.capOf
  split
  · rfl
  · rename_i hn
    have := h.ge a b
    by_cases hp : 0 < c a b
    · exact absurd (h.may a b hp) hn
    · omega
theorem GoodC.zero : GoodC zeroC := ⟨fun _ _ => Int.le_refl _, fun _ _ h => absurd h (by show ¬ (0 : Int) < 0; omega)⟩
theorem GoodC.upd {c : Caps} (h : GoodC c) {a b : Nat} {n : Int} (ha : mayP a = true) (hb : mayP b = true) (hn : 0 ≤ n) : GoodC (upd2 c a b n) := by
  refine ⟨fun x y => ?_, fun x y hp => ?_⟩
  · unfold upd2
    split
    · exact hn
    · exact h.ge x y
  · unfold upd2 at hp
    split at hp
    · rename_i e; obtain ⟨rfl, rfl⟩ := e; exact ⟨ha, hb⟩
    · exact h.may x y hp
theorem GoodC.row0 {c : Caps} (h : GoodC c) : ∀ k, rowE c 0 k = []
  | 0 => rfl
  | k + 1 => by
    rw [rowE, h.row0 k, if_neg]
    · rfl
    · intro hp
      have := (h.may 0 k hp).1
      simp [mayP] at this
theorem GoodC.col0 {c : Caps} (h : GoodC c) (a : Nat) : rowE c a 1 = [] := by
  rw [rowE, rowE, if_neg]
  · rfl
  · intro hp
    have := (h.may a 0 hp).2
    simp [mayP] at this
theorem GoodC.mat1 {c : Caps} (h : GoodC c) : matE c 1 = [] := by rw [matE, matE, h.row0]; rfl
/-- The cells of a flow in a list that can be read. -/
theorem flwL_rd {w : World} {b o k : Nat} {F : List Flw} {x : Flw} (R : Rd w (some ⟨b, o, none⟩) (flwL F)) (hk : F[k]? = some x) : w.cell? ⟨b, o + k * 3, none⟩ = some (.int .u8 (x.f : Int)) ∧ w.cell? ⟨b, o + k * 3 + 1, none⟩ = some (.int .u8 (x.t : Int)) ∧ w.cell? ⟨b, o + k * 3 + 2, none⟩ = some (.int .i64 x.n) := by
  have hlt : k < F.length := by
    apply Classical.byContradiction
    intro hn
    rw [List.getElem?_eq_none (by omega)] at hk
    cases hk
  have hl := flwL_len F
  have hat := flwL_at F k hlt
  rw [List.getElem?_eq_getElem hlt] at hk
  rw [Option.some.inj hk] at hat
  have key : ∀ j v, j < 3 → (flwV x)[j]? = some v → w.cell? ⟨b, o + k * 3 + j, none⟩ = some v := fun j v hj hv => by
    rw [← hat, List.getElem?_take, if_pos hj, List.getElem?_drop] at hv
    have hi : k * 3 + j < (flwL F).length := by omega
    rw [List.getElem?_eq_getElem hi] at hv
    have := R.get hi
    rw [Nat.add_assoc, this]
    exact hv
  exact ⟨key 0 _ (by omega) rfl, key 1 _ (by omega) rfl, key 2 _ (by omega) rfl⟩
theorem rowT_rd {W w : World} {l : List Thing} {e size n c : Nat} {a : Option Addr} {xs : List Value} (H : Heap W l w) (m : RowT e size (.slice a n c) n xs ∈ l) : Rd w a xs := by
  obtain ⟨a', c', he, hr, _⟩ := (Own.ofRow (H.ok _ m)).rd
  simp only [Value.slice.injEq, true_and] at he
  obtain ⟨rfl, _⟩ := he
  exact hr
theorem rowT_form {w : World} {e size n : Nat} {v : Value} {xs : List Value} (h : (RowT e size v n xs).ok w) : ∃ a c, v = .slice a n c ∧ n ≤ c ∧ c ≤ maxLen := by
  obtain ⟨a, c, e, _, h1, h2, _⟩ := (Own.ofRow h).rd
  exact ⟨a, c, e, h1, h2⟩
structure CapLoop (W : World) (l : List Thing) (F : List Flw) (n f t : Nat) (i : Value) (wr : World) : Prop where
  out : ∃ k : Nat, i = .int .i64 (k : Int) ∧ k ≤ n ∧ capL F f t = capL (F.drop k) f t ∧ Heap W l wr
section
variable {W w : World} {l : List Thing} {p n : Nat} {a : Option Addr} {cc : Nat} {F : List Flw}
set_option maxRecDepth 100000
set_option maxHeartbeats 4000000
theorem rcap_H (f t : Nat) (hf : f ≤ 255) (ht : t ≤ 255) (m1 : RgT p (.slice a n cc) ∈ l) (m2 : FlT (.slice a n cc) n F ∈ l) (hl : F.length = n) (hn : n ≤ 1000000) (hF : ∀ x ∈ F, FlwOk x) :
    AnsH W l 100 #[.pointer (some ⟨p, 0, none⟩), .int .u8 (f : Int), .int .u8 (t : Int)] (.int .i64 (capL F f t)) := by
  intro w H
  have HL := Lib.hid hl
  have HF := Lib.hid hF
  have HR := Lib.hid (show ∀ w', Heap W l w' → Rd w' a (flwL F) from fun w' h => rowT_rd h m2)
  clear hl hF
  generalize hcap : capL F f t = cv
  have HC := Lib.hid hcap
  clear hcap
  go_enter Try.func100, Try.ntmps100
  go_wp2_with (go_skip)
  have H0 := H
  clear H
  go_loopw [7] (fun i wr => CapLoop W l F n f t i wr) (fun i _ => n - (intOf i).toNat)
  case atStart => exact ⟨0, rfl, by omega, rfl, H0⟩
  case round =>
    obtain ⟨k, rfl, hk, hG, H'⟩ := hrel.out
    clear H0 hrel
    have H := H'
    clear H'
    by_cases hlt : k < n
    · have hkF : k < F.length := by rw [HL.out]; exact hlt
      have hx : F[k]? = some F[k] := List.getElem?_eq_getElem hkF
      have hok := HF.out _ (List.getElem_mem hkF)
      rw [List.drop_eq_getElem_cons hkF, capL] at hG
      generalize F[k] = x at *
      obtain ⟨b, o, rfl, _⟩ := (HR.out _ H).lt (by rw [flwL_len]; omega)
      have HX := Lib.hid (show ∀ w', Heap W l w' → _ from fun w' h => flwL_rd (HR.out w' h) hx)
      obtain ⟨xf, xt, xn⟩ := x
      obtain ⟨o1, o2, o3, o4⟩ := hok
      simp only at o1 o2 o3 o4 hG
      clear hx hkF
      by_cases e1 : xf = f
      · by_cases e2 : xt = t
        · subst e1 e2
          rw [if_pos ⟨rfl, rfl⟩] at hG
          have g1 : ((xf : Int) == (xf : Int)) = true := by simp
          have g2 : ((xt : Int) == (xt : Int)) = true := by simp
          have HG := Lib.hid hG
          clear hG
          go_wp2_with (first
            | go_skip
            | ((with_reducible show wpList _ _ _ (_ :: _) _ _); (with_reducible apply wpl_loadCH); (· exact cell_flows); (· rfl); (· rfl); (· exact H); (· exact m1); (· exact rgC_g _); (simp only [Act.put, List.setIfInBounds_toArray, List.set_cons_zero, List.set_cons_succ]))
            | ((with_reducible show wpList _ _ _ (_ :: _) _ _); (with_reducible apply wpl_loadCell); (· first | exact cell_party | exact cell_i64); (· rfl); (· rfl); (· first | exact (HX.out _ H).1 | exact (HX.out _ H).2.1 | exact (HX.out _ H).2.2); (simp only [Act.put, List.setIfInBounds_toArray, List.set_cons_zero, List.set_cons_succ])))
          go_ret
          rw [show cv = _ from HC.out.symm.trans HG.out]
          exact ⟨rfl, H⟩
        · rw [if_neg (fun h => e2 h.2)] at hG
          subst e1
          have g1 : ((xf : Int) == (xf : Int)) = true := by simp
          have g2 : ((xt : Int) == (t : Int)) = false := by simp; omega
          have HG := Lib.hid hG
          clear hG
          go_wp2_with (first
            | go_skip
            | ((with_reducible show wpList _ _ _ (_ :: _) _ _); (with_reducible apply wpl_loadCH); (· exact cell_flows); (· rfl); (· rfl); (· exact H); (· exact m1); (· exact rgC_g _); (simp only [Act.put, List.setIfInBounds_toArray, List.set_cons_zero, List.set_cons_succ]))
            | ((with_reducible show wpList _ _ _ (_ :: _) _ _); (with_reducible apply wpl_loadCell); (· first | exact cell_party | exact cell_i64); (· rfl); (· rfl); (· first | exact (HX.out _ H).1 | exact (HX.out _ H).2.1 | exact (HX.out _ H).2.2); (simp only [Act.put, List.setIfInBounds_toArray, List.set_cons_zero, List.set_cons_succ])))
          refine ⟨?_, ?_⟩
          · exact ⟨⟨k + 1, by go_num, by omega, HG.out, H⟩⟩
          · simp [intOf]; omega
      · rw [if_neg (fun h => e1 h.1)] at hG
        have g1 : ((xf : Int) == (f : Int)) = false := by simp; omega
        have HG := Lib.hid hG
        clear hG
        go_wp2_with (first
          | go_skip
          | ((with_reducible show wpList _ _ _ (_ :: _) _ _); (with_reducible apply wpl_loadCH); (· exact cell_flows); (· rfl); (· rfl); (· exact H); (· exact m1); (· exact rgC_g _); (simp only [Act.put, List.setIfInBounds_toArray, List.set_cons_zero, List.set_cons_succ]))
          | ((with_reducible show wpList _ _ _ (_ :: _) _ _); (with_reducible apply wpl_loadCell); (· first | exact cell_party | exact cell_i64); (· rfl); (· rfl); (· first | exact (HX.out _ H).1 | exact (HX.out _ H).2.1 | exact (HX.out _ H).2.2); (simp only [Act.put, List.setIfInBounds_toArray, List.set_cons_zero, List.set_cons_succ])))
        refine ⟨?_, ?_⟩
        · exact ⟨⟨k + 1, by go_num, by omega, HG.out, H⟩⟩
        · simp [intOf]; omega
    · obtain rfl : n = k := by omega
      rw [List.drop_of_length_le (by rw [HL.out]; exact Nat.le_refl _)] at hG
      have HG := Lib.hid (show capL F f t = 0 from hG)
      clear hG
      go_wp2_with (first
        | go_skip
        | ((with_reducible show wpList _ _ _ (_ :: _) _ _); (with_reducible apply wpl_loadCH); (· exact cell_flows); (· rfl); (· rfl); (· exact H); (· exact m1); (· exact rgC_g _); (simp only [Act.put, List.setIfInBounds_toArray, List.set_cons_zero, List.set_cons_succ])))
      go_ret
      rw [show cv = _ from HC.out.symm.trans HG.out]
      exact ⟨rfl, H⟩
end
end Go.Proofs.Ytgobnamhdkbbeaa

/- Append from whatever can be read (nil too); a block's head as a row. -/
namespace Go.Proofs.Ytgobnamhdkbbeaa
open Go.RowKit
set_option linter.unusedSimpArgs false
set_option linter.unusedVariables false
theorem Heap.celRowA {W w : World} {l : List Thing} {g e size n m : Nat} {c : Array Value} (H : Heap W (Cel g c e :: l) w) (hc : c.size = m * size) (hn : n ≤ m) (hm : m ≤ maxLen) : Heap W (RowT e size (.slice (some ⟨g, 0, none⟩) n m) n (c.toList.take (n * size)) :: l) w := by
  have h2 : n * size ≤ m * size := Nat.mul_le_mul_right _ hn
  exact H.head (World.grownBy.refl _ _) ⟨by simp; omega, .inr ⟨g, m, c, rfl, Nat.zero_le _, H.blk List.mem_cons_self, hn, hm, by omega, rfl⟩⟩ (.inl rfl)
section
variable {ops : Array Oper} {rest : List Oper} {o : Oper} {a : Act} {w W : World} {l : List Thing} {Q : Exit → Act → World → Prop}
/-- append(s, x...), x whatever can be read. -/
theorem wpl_appendA {t e size bytes : Nat} {z : Value} (T : SlTy Try.prog t e size bytes z) (hgd : o.guard = none) {s x : Operand}
    (ho : o.op = .call { callee := .builtin .append, args := #[s, x], argTypes := #[t, t] }) {v : Value} (hs : a.eval s = v) {ao : Option Addr} {m c : Nat} (hx : a.eval x = .slice ao m c)
    {n : Nat} {xs news : List Value} (H : Heap W (RowT e size v n xs :: l) w) (hrd : Rd w ao news) (hl : news.length = m * size) (h1 : OneCells news)
    (h63 : n + m ≤ maxLen) (hbytes : (n + m) * bytes ≤ 140737488355328)
    (h : ∀ v' w', (v' = .slice none 0 0 ↔ v = .slice none 0 0 ∧ m = 0) → Heap W (RowT e size v' (n + m) (xs ++ news) :: l) w' → wpList Try.prog ops Q rest (a.put o.dst v') w') : wpList Try.prog ops Q (o :: rest) a w := by
  by_cases hm : m = 0
  · subst hm
    have hn0 : news = [] := List.eq_nil_of_length_eq_zero (by simpa using hl)
    subst hn0
    obtain ⟨i, hi, hz, hsi, hbi⟩ := T.inf
    have hr : (Builtin.append_ #[t, t] o.type #[v, .slice ao 0 c]).run Try.prog w = .ok v w := by
      rcases (H.ok _ List.mem_cons_self).2 with ⟨rfl, rfl⟩ | ⟨g, cap, cur, rfl, _, _, hnc, _⟩
      · cases ao <;> simp [Builtin.append_, run_underlying T.und, sizeOf, typeInfo, hi, Builtin.lenOf, Builtin.firstCells, loadCells, loadCellsFrom]
      · cases ao <;> simp [Builtin.append_, run_underlying T.und, sizeOf, typeInfo, hi, Builtin.lenOf, Builtin.firstCells, hnc, storeCells, loadCells, loadCellsFrom]
    refine wpList_plain hgd fun K hK => ?_
    unfold Oper.wp execOp
    simp only [ho, resolve, invoke, builtin, Sem.run_bind, Sem.run_pure, Result.andThen_ok, List.map_toArray, List.map_cons, List.map_nil, hs, hx, hr]
    exact hK _ _ (h v w ⟨fun e => ⟨e, rfl⟩, fun e => e.1⟩ (by rw [List.append_nil]; exact H))
  · obtain ⟨b, off, rfl, _⟩ := hrd.lt (by rw [hl]; have := T.pos; exact Nat.mul_pos (by omega) this)
    refine wpl_appendH T hgd ho hs hx H hrd hl h1 h63 hbytes fun v' w' H' => h v' w' ⟨fun e => ?_, fun e => absurd e.2 hm⟩ H'
    subst e
    obtain ⟨_, ⟨_, h0⟩ | ⟨g, cap, cur, hv, _⟩⟩ := H'.ok _ List.mem_cons_self
    · omega
    · cases hv
/-- s[:hi]. -/
theorem wpl_cutTo {t e size bytes : Nat} {z : Value} (T : SlTy Try.prog t e size bytes z) {dst : Option Tmp} {ty : TypeId} {pos : String} {after : Array Edge} {guard : Option (Nat × Bool)} {x y : Operand} (hw : Region.wanted ⟨dst, .slice t x none (some y) none, ty, pos, after, guard⟩ (yielded ops a.tmps) = true)
    {ao : Option Addr} {n c hi : Nat} {k : IntKind} (hx : a.eval x = .slice ao n c) (hy : a.eval y = .int k (hi : Int)) (hh : hi ≤ c) (h : wpList Try.prog ops Q rest (a.put dst (.slice ao hi c)) w) : wpList Try.prog ops Q (⟨dst, .slice t x none (some y) none, ty, pos, after, guard⟩ :: rest) a w := by
  refine wpl_pure hw _ (fun w => ?_) h
  have hr := run_cutTo (P := Try.prog) T ao n c hi k hh w
  have hs : (Instr.sliceAt t (.slice ao n c) none (some (.int k (hi : Int))) none).run Try.prog w = .ok (.slice ao hi c) w := by
    unfold Instr.sliceAt
    rw [Sem.run_bind, run_underlying T.und]
    simp only [Result.andThen_ok]
    exact hr
  unfold execOp
  simp only [hx, Option.map_some, hy, Option.map_none, Sem.run_bind, hs, Result.andThen_ok, Sem.run_pure]
/-- s[lo:hi]. -/
theorem wpl_cutBoth {t e size bytes : Nat} {z : Value} (T : SlTy Try.prog t e size bytes z) {dst : Option Tmp} {ty : TypeId} {pos : String} {after : Array Edge} {guard : Option (Nat × Bool)} {x y u : Operand} (hw : Region.wanted ⟨dst, .slice t x (some u) (some y) none, ty, pos, after, guard⟩ (yielded ops a.tmps) = true)
    {ao : Option Addr} {n c lo hi : Nat} {k k2 : IntKind} (hx : a.eval x = .slice ao n c) (hu : a.eval u = .int k (lo : Int)) (hy : a.eval y = .int k2 (hi : Int)) (hl : lo ≤ hi) (hh : hi ≤ c) {ao2 : Option Addr} {m c2 : Nat} (he : cutA ao c lo size = ao2) (hm : hi - lo = m) (hc2 : c - lo = c2) (h : wpList Try.prog ops Q rest (a.put dst (.slice ao2 m c2)) w) : wpList Try.prog ops Q (⟨dst, .slice t x (some u) (some y) none, ty, pos, after, guard⟩ :: rest) a w := by
  subst he hm hc2
  refine wpl_pure hw _ (fun w => ?_) h
  have hr := run_cut (P := Try.prog) T ao n c lo hi k k2 hl hh w
  have hs : (Instr.sliceAt t (.slice ao n c) (some (.int k (lo : Int))) (some (.int k2 (hi : Int))) none).run Try.prog w = .ok (.slice (cutA ao c lo size) (hi - lo) (c - lo)) w := by
    unfold Instr.sliceAt
    rw [Sem.run_bind, run_underlying T.und]
    simp only [Result.andThen_ok]
    exact hr
  unfold execOp
  simp only [hx, Option.map_some, hu, hy, Option.map_none, Sem.run_bind, hs, Result.andThen_ok, Sem.run_pure]
theorem wpQ_loadRdR0 {T n : Nat} {z : Array Value} {dst : Option Tmp} {ty : TypeId} {pos : String} {after : Array Edge} {guard : Option (Nat × Bool)} {x : Operand} {b k : Nat} {K : Act → Prop} {H : Heap W l w} (RT : RowTy T n z) (hw : Region.wanted ⟨dst, .load T x, ty, pos, after, guard⟩ (yielded ops a.tmps) = true) (hx : a.eval x = .pointer (some ⟨b, k, none⟩))
    {xs : List Value} {c1 : Array Value} (R : ∀ w', Heap W l w' → Rd w' (some ⟨b, 0, none⟩) xs) (hn : k + n ≤ xs.length) (h0 : 0 < n) (hv : ((xs.drop k).take n).toArray = c1)
    (h : wpQuiet Try.prog ops (fun w' => ∃ d, w' = H.any d) K rest (a.put dst (.agg c1))) : wpQuiet Try.prog ops (fun w' => ∃ d, w' = H.any d) K (⟨dst, .load T x, ty, pos, after, guard⟩ :: rest) a :=
  wpQ_loadRdR RT hw hx R (Nat.zero_add k).symm hn h0 hv h
end
end Go.Proofs.Ytgobnamhdkbbeaa

/- countinghouseref05: set, New, Push, Copy. -/
namespace Go.Proofs.Ytgobnamhdkbbeaa
open Go.RowKit
set_option linter.unusedSimpArgs false
set_option linter.unusedVariables false
def BndC (c : Caps) : Prop := ∀ a b, c a b ≤ 4611686018427387904
theorem rowE_mem {c : Caps} {r : Nat} {x : Flw} : ∀ k, x ∈ rowE c r k → x.f = r ∧ x.t < k ∧ x.n = c x.f x.t ∧ 0 < x.n
  | 0, h => by cases h
  | k + 1, h => by
    rw [rowE] at h
    rcases List.mem_append.1 h with h | h
    · have := rowE_mem k h
      exact ⟨this.1, by omega, this.2.2⟩
    · split at h
      · rename_i hp
        rw [List.mem_singleton.1 h]
        exact ⟨rfl, by show k < k + 1; omega, rfl, hp⟩
      · cases h
theorem matE_mem {c : Caps} {x : Flw} : ∀ k, x ∈ matE c k → x.f < k ∧ x.t < 17 ∧ x.n = c x.f x.t ∧ 0 < x.n
  | 0, h => by cases h
  | k + 1, h => by
    rw [matE] at h
    rcases List.mem_append.1 h with h | h
    · have := matE_mem k h
      exact ⟨by omega, this.2⟩
    · have := rowE_mem 17 h
      exact ⟨by omega, this.2⟩
theorem edges_ok {c : Caps} (h : BndC c) : ∀ x ∈ edgesOf c, FlwOk x := fun x hx => by
  have := matE_mem 17 hx
  have := h x.f x.t
  exact ⟨by omega, by omega, by omega, by omega⟩
theorem edges_len (c : Caps) : (edgesOf c).length ≤ 289 := matE_len c 17
theorem BndC.upd {c : Caps} (h : BndC c) {a b : Nat} {n : Int} (hn : n ≤ 4611686018427387904) : BndC (upd2 c a b n) := fun x y => by
  unfold upd2
  split
  · exact hn
  · exact h x y
theorem BndC.zero : BndC zeroC := fun _ _ => by show (0 : Int) ≤ _; omega
/-- A graph of the document's. -/
def RgH (W : World) (l : List Thing) (p : Nat) (c : Caps) (w : World) : Prop := ∃ a cc, Heap W (RgT p (.slice a (edgesOf c).length cc) :: FlT (.slice a (edgesOf c).length cc) (edgesOf c).length (edgesOf c) :: l) w
section
variable {ops : Array Oper} {rest : List Oper} {a : Act} {w W : World} {l l' : List Thing} {Q : Exit → Act → World → Prop}
/-- x = Flow{f, t, n}. -/
theorem wpl_storeFlow {dst : Option Tmp} {ty : TypeId} {pos : String} {after : Array Edge} {guard : Option (Nat × Bool)} {x y : Operand} {b : Nat} {f t n f0 t0 n0 : Int} {te : TypeId} (hw : Region.wanted ⟨dst, .store 32 x y, ty, pos, after, guard⟩ (yielded ops a.tmps) = true) (hx : a.eval x = .pointer (some ⟨b, 0, none⟩)) (hy : a.eval y = .agg #[.int .u8 f, .int .u8 t, .int .i64 n])
    (H : Heap W l w) (m : Cel b (flow f0 t0 n0) te ∈ l) (r : Repl l (Cel b (flow f0 t0 n0) te) (Cel b (flow f t n) te) l')
    (h : ∀ w', Heap W l' w' → wpList Try.prog ops Q rest (a.put dst undef) w') : wpList Try.prog ops Q (⟨dst, .store 32 x y, ty, pos, after, guard⟩ :: rest) a w :=
  wpl_storeRH row_flow hw hx hy (flow_cells f t n) H m (by simp [flow_sz]) (flow_splice ..) r h
end
theorem flT_snoc (v : Value) (L : List Flw) (f t : Nat) (n : Int) : FlT v (L ++ [(⟨f, t, n⟩ : Flw)]).length (L ++ [(⟨f, t, n⟩ : Flw)]) = RowT 32 3 v (L.length + 1) (flwL L ++ (flow (f : Int) (t : Int) n).toList) := by
  unfold FlT
  rw [flwL_app, List.length_append]
  rfl
structure SetA (W : World) (l : List Thing) (c : Caps) (v i : Value) (wr : World) : Prop where
  out : ∃ a : Nat, i = .int .u8 (a : Int) ∧ 1 ≤ a ∧ a ≤ 17 ∧ Heap W (FlT v (matE c a).length (matE c a) :: l) wr
structure SetB (W : World) (l : List Thing) (c : Caps) (a : Nat) (v i : Value) (wr : World) : Prop where
  out : ∃ b : Nat, i = .int .u8 (b : Int) ∧ 1 ≤ b ∧ b ≤ 17 ∧ Heap W (FlT v (matE c a ++ rowE c a b).length (matE c a ++ rowE c a b) :: l) wr
section
variable {W w : World} {l : List Thing} {p : Nat}
set_option maxRecDepth 100000
set_option maxHeartbeats 4000000
theorem rset_H (c : Caps) (f t : Nat) (n0 : Int) (hf : mayP f = true) (ht : mayP t = true) (h0 : 0 ≤ n0) (hn0 : n0 ≤ 4611686018427387904) (hc : GoodC c) (hb : BndC c) (H : RgH W l p c w) :
    Calls Try.prog 119 #[.pointer (some ⟨p, 0, none⟩), .int .u8 (f : Int), .int .u8 (t : Int), .int .i64 n0] w fun e w' => e = .returned (.tuple #[]) ∧ RgH W l p (upd2 c f t n0) w' := by
  obtain ⟨a, cc, H⟩ := H
  have hc2 := hc.upd hf ht h0
  have hb2 : BndC (upd2 c f t n0) := hb.upd hn0
  have hf2 := mayP_true hf
  have ht2 := mayP_true ht
  have hle := edges_len c
  have hcap := fun (l' : List Thing) (x y : Nat) (hx : x ≤ 255) (hy : y ≤ 255) (m1 : RgT p (.slice a (edgesOf c).length cc) ∈ l') (m2 : FlT (.slice a (edgesOf c).length cc) (edgesOf c).length (edgesOf c) ∈ l') => rcap_H (W := W) (l := l') x y hx hy m1 m2 rfl (by omega) (edges_ok hb)
  simp only [hc.cap] at hcap
  have hnew : ∀ x y, upd2 c f t n0 x y = if x = f ∧ y = t then n0 else c x y := fun x y => rfl
  generalize upd2 c f t n0 = c' at *
  generalize hE : (edgesOf c).length = N at *
  have HX := Lib.hid (And.intro hc2 (And.intro hb2 hnew))
  have HCAP := Lib.hid hcap
  have HB := Lib.hid hb
  clear hc hb hc2 hb2 hnew hcap hf ht hE
  go_enter Try.func119, Try.ntmps119
  go_wp2_with (go_skip)
  have H0 := H.nilRow 32 3
  clear H
  rw [show (0 : Nat) = (matE c' 1).length by rw [HX.out.1.mat1]; rfl, show ([] : List Value) = flwL (matE c' 1) by rw [HX.out.1.mat1]; rfl] at H0
  go_loopw [8, 9] (fun v i wr => SetA W (RgT p (.slice a N cc) :: FlT (.slice a N cc) N (edgesOf c) :: l) c' v i wr) (fun _ i _ => 17 - (intOf i).toNat)
  case atStart => exact ⟨1, rfl, by omega, by omega, by simpa [HX.out.1.mat1] using H0⟩
  case round =>
    obtain ⟨x, rfl, hx1, hx, H'⟩ := hrel.out
    clear H0 hrel
    have H := H'
    clear H'
    by_cases hlt : x < 17
    · have g1 : decide ((x : Int) ≤ 16) = true := by simp; omega
      go_wp2_with (go_skip)
      have H0 := H
      clear H
      go_loopw [8, 10] (fun v i wr => SetB W (RgT p (.slice a N cc) :: FlT (.slice a N cc) N (edgesOf c) :: l) c' x v i wr) (fun _ i _ => 17 - (intOf i).toNat)
      case atStart => exact ⟨1, rfl, by omega, by omega, by rw [HX.out.1.col0, List.append_nil]; exact H0⟩
      case round =>
        obtain ⟨y, rfl, hy1, hy, H'⟩ := hrel.out
        clear H0 hrel
        have H := H'
        clear H'
        by_cases hlt2 : y < 17
        · have g2 : decide ((y : Int) ≤ 16) = true := by simp; omega
          have hA := HCAP.out (FlT u8 (matE c' x ++ rowE c' x y).length (matE c' x ++ rowE c' x y) :: RgT p (.slice a N cc) :: FlT (.slice a N cc) N (edgesOf c) :: l) x y (by omega) (by omega) (by (repeat (first | (with_reducible exact List.mem_cons_self) | with_reducible apply List.mem_cons_of_mem))) (by (repeat (first | (with_reducible exact List.mem_cons_self) | with_reducible apply List.mem_cons_of_mem)))
          have hlen : (matE c' x ++ rowE c' x y).length ≤ 289 := by have := matE_len c' x; have := rowE_len c' x y; simp only [List.length_append]; omega
          have hb1 := HB.out x y
          have hv := HX.out.2.2 x y
          have HV := Lib.hid hv
          have HR := Lib.hid (show rowE c' x (y + 1) = rowE c' x y ++ if 0 < c' x y then [⟨x, y, c' x y⟩] else [] from rfl)
          generalize c x y = cv at *
          have hn1 : (matE c' x ++ rowE c' x y).length + 1 ≤ maxLen := by unfold maxLen; omega
          have hn2 : ((matE c' x ++ rowE c' x y).length + 1) * 16 ≤ 140737488355328 := by omega
          by_cases hft : x = f ∧ y = t
          · rw [if_pos hft] at hv
            obtain ⟨rfl, rfl⟩ := hft
            have HV2 := Lib.hid hv
            have e1 : ((x : Int) == (x : Int)) = true := by simp
            have e2 : ((y : Int) == (y : Int)) = true := by simp
            clear hv HV
            by_cases hp : 0 < n0
            · skip
              go_wp2_with (first
                | go_skip
                | ((with_reducible refine AnsH.call (by assumption) H ?_); clear H; intro _ H)
                | ((with_reducible show wpList _ _ _ (_ :: _) _ _); (with_reducible apply wpl_allocRH row_flow); (· rfl); (· exact H); (clear H; intro px _ H); (simp only [Act.put, List.setIfInBounds_toArray, List.set_cons_zero, List.set_cons_succ]))
                | ((with_reducible show wpList _ _ _ (_ :: _) _ _); (with_reducible apply wpl_storeFlow); (· rfl); (· rfl); (· rfl); (· exact H); (· (repeat (first | (with_reducible exact List.mem_cons_self) | with_reducible apply List.mem_cons_of_mem))); (· (repeat (first | (with_reducible exact Repl.here) | with_reducible apply Repl.there))); (clear H; intro _ H); (simp only [Act.put, List.setIfInBounds_toArray, List.set_cons_zero, List.set_cons_succ]))
                | ((with_reducible show wpList _ _ _ (_ :: _) _ _); (with_reducible apply wpl_loadCH); (· first | exact cell_party | exact cell_i64); (· rfl); (· rfl); (· exact H); (· (repeat (first | (with_reducible exact List.mem_cons_self) | with_reducible apply List.mem_cons_of_mem))); (· (with_reducible first | exact flow_g0 .. | exact flow_g1 .. | exact flow_g2 ..)); (simp only [Act.put, List.setIfInBounds_toArray, List.set_cons_zero, List.set_cons_succ]))
                | (first | ((with_reducible show wpList _ _ _ (_ :: _) _ _); (with_reducible apply wpl_storeIH); (· first | exact cell_party | exact cell_i64); (· rfl); (· rfl); (· rfl); (· exact H); (· (repeat (first | (with_reducible exact List.mem_cons_self) | with_reducible apply List.mem_cons_of_mem))); (· (simp only [flow_sz, Nat.reduceLT]; done)); (· (with_reducible first | exact flow_s0 .. | exact flow_s1 .. | exact flow_s2 ..)); (· (repeat (first | (with_reducible exact Repl.here) | with_reducible apply Repl.there))); (clear H; intro _ H); (simp only [Act.put, List.setIfInBounds_toArray, List.set_cons_zero, List.set_cons_succ])) | ((with_reducible show wpList _ _ _ (_ :: _) _ _); (with_reducible apply wpl_storeBH); (· first | exact cell_party | exact cell_i64); (· rfl); (· rfl); (· rfl); (· exact H); (· (repeat (first | (with_reducible exact List.mem_cons_self) | with_reducible apply List.mem_cons_of_mem))); (· (simp only [flow_sz, Nat.reduceLT]; done)); (· (with_reducible first | exact flow_s0 .. | exact flow_s1 .. | exact flow_s2 ..)); (· (repeat (first | (with_reducible exact Repl.here) | with_reducible apply Repl.there))); (clear H; intro _ H); (simp only [Act.put, List.setIfInBounds_toArray, List.set_cons_zero, List.set_cons_succ])) | ((with_reducible show wpList _ _ _ (_ :: _) _ _); (with_reducible apply wpl_storeSH); (· first | exact cell_party | exact cell_i64); (· rfl); (· rfl); (· rfl); (· exact H); (· (repeat (first | (with_reducible exact List.mem_cons_self) | with_reducible apply List.mem_cons_of_mem))); (· (simp only [flow_sz, Nat.reduceLT]; done)); (· (with_reducible first | exact flow_s0 .. | exact flow_s1 .. | exact flow_s2 ..)); (· (repeat (first | (with_reducible exact Repl.here) | with_reducible apply Repl.there))); (clear H; intro _ H); (simp only [Act.put, List.setIfInBounds_toArray, List.set_cons_zero, List.set_cons_succ])) | ((with_reducible show wpList _ _ _ (_ :: _) _ _); (with_reducible apply wpl_storePH); (· first | exact cell_party | exact cell_i64); (· rfl); (· rfl); (· rfl); (· exact H); (· (repeat (first | (with_reducible exact List.mem_cons_self) | with_reducible apply List.mem_cons_of_mem))); (· (simp only [flow_sz, Nat.reduceLT]; done)); (· (with_reducible first | exact flow_s0 .. | exact flow_s1 .. | exact flow_s2 ..)); (· (repeat (first | (with_reducible exact Repl.here) | with_reducible apply Repl.there))); (clear H; intro _ H); (simp only [Act.put, List.setIfInBounds_toArray, List.set_cons_zero, List.set_cons_succ])))
                | ((with_reducible show wpList _ _ _ (_ :: _) _ _); (with_reducible apply wpl_loadRH row_flow); (· rfl); (· rfl); (· exact H); (· (repeat (first | (with_reducible exact List.mem_cons_self) | with_reducible apply List.mem_cons_of_mem))); (· (simp only [flow_sz, Nat.reduceAdd, Nat.reduceLeDiff, Nat.le_refl]; done)); (· with_reducible exact flow_all ..); (simp only [Act.put, List.setIfInBounds_toArray, List.set_cons_zero, List.set_cons_succ]))
                | ((with_reducible show wpList _ _ _ (_ :: _) _ _); (with_reducible apply wpl_bsRH); (· rfl); (· rfl); (· exact bs_flow); (· exact rfl); (· exact H); (clear H; intro pf _ H); (simp only [Act.put, List.setIfInBounds_toArray, List.set_cons_zero, List.set_cons_succ]))
                | ((with_reducible show wpList _ _ _ (_ :: _) _ _); (with_reducible apply wpl_appendH slF); (· rfl); (· rfl); (· rfl); (· rfl); (· exact H.pull (.there (.there .here))); (· exact H.celRd List.mem_cons_self); (· rfl); (· exact flowC_one _ _ _); (· exact hn1); (· exact hn2); (clear H; intro v2 _ H); (simp only [Act.put, List.setIfInBounds_toArray, List.set_cons_zero, List.set_cons_succ])))
              go_roundw
              case rel =>
                refine ⟨⟨y + 1, by go_num, by omega, by omega, ?_⟩⟩
                have e : matE c' x ++ rowE c' x (y + 1) = (matE c' x ++ rowE c' x y) ++ [⟨x, y, n0⟩] := by rw [HR.out, HV2.out, if_pos hp, List.append_assoc]
                rw [e, flT_snoc]
                exact (H.drop (.there .here)).drop (.there .here)
              case measure => simp [intOf]; omega
            · skip
              go_wp2_with (first
                | go_skip
                | ((with_reducible refine AnsH.call (by assumption) H ?_); clear H; intro _ H)
                | ((with_reducible show wpList _ _ _ (_ :: _) _ _); (with_reducible apply wpl_allocRH row_flow); (· rfl); (· exact H); (clear H; intro px _ H); (simp only [Act.put, List.setIfInBounds_toArray, List.set_cons_zero, List.set_cons_succ]))
                | ((with_reducible show wpList _ _ _ (_ :: _) _ _); (with_reducible apply wpl_storeFlow); (· rfl); (· rfl); (· rfl); (· exact H); (· (repeat (first | (with_reducible exact List.mem_cons_self) | with_reducible apply List.mem_cons_of_mem))); (· (repeat (first | (with_reducible exact Repl.here) | with_reducible apply Repl.there))); (clear H; intro _ H); (simp only [Act.put, List.setIfInBounds_toArray, List.set_cons_zero, List.set_cons_succ]))
                | ((with_reducible show wpList _ _ _ (_ :: _) _ _); (with_reducible apply wpl_loadCH); (· first | exact cell_party | exact cell_i64); (· rfl); (· rfl); (· exact H); (· (repeat (first | (with_reducible exact List.mem_cons_self) | with_reducible apply List.mem_cons_of_mem))); (· (with_reducible first | exact flow_g0 .. | exact flow_g1 .. | exact flow_g2 ..)); (simp only [Act.put, List.setIfInBounds_toArray, List.set_cons_zero, List.set_cons_succ]))
                | (first | ((with_reducible show wpList _ _ _ (_ :: _) _ _); (with_reducible apply wpl_storeIH); (· first | exact cell_party | exact cell_i64); (· rfl); (· rfl); (· rfl); (· exact H); (· (repeat (first | (with_reducible exact List.mem_cons_self) | with_reducible apply List.mem_cons_of_mem))); (· (simp only [flow_sz, Nat.reduceLT]; done)); (· (with_reducible first | exact flow_s0 .. | exact flow_s1 .. | exact flow_s2 ..)); (· (repeat (first | (with_reducible exact Repl.here) | with_reducible apply Repl.there))); (clear H; intro _ H); (simp only [Act.put, List.setIfInBounds_toArray, List.set_cons_zero, List.set_cons_succ])) | ((with_reducible show wpList _ _ _ (_ :: _) _ _); (with_reducible apply wpl_storeBH); (· first | exact cell_party | exact cell_i64); (· rfl); (· rfl); (· rfl); (· exact H); (· (repeat (first | (with_reducible exact List.mem_cons_self) | with_reducible apply List.mem_cons_of_mem))); (· (simp only [flow_sz, Nat.reduceLT]; done)); (· (with_reducible first | exact flow_s0 .. | exact flow_s1 .. | exact flow_s2 ..)); (· (repeat (first | (with_reducible exact Repl.here) | with_reducible apply Repl.there))); (clear H; intro _ H); (simp only [Act.put, List.setIfInBounds_toArray, List.set_cons_zero, List.set_cons_succ])) | ((with_reducible show wpList _ _ _ (_ :: _) _ _); (with_reducible apply wpl_storeSH); (· first | exact cell_party | exact cell_i64); (· rfl); (· rfl); (· rfl); (· exact H); (· (repeat (first | (with_reducible exact List.mem_cons_self) | with_reducible apply List.mem_cons_of_mem))); (· (simp only [flow_sz, Nat.reduceLT]; done)); (· (with_reducible first | exact flow_s0 .. | exact flow_s1 .. | exact flow_s2 ..)); (· (repeat (first | (with_reducible exact Repl.here) | with_reducible apply Repl.there))); (clear H; intro _ H); (simp only [Act.put, List.setIfInBounds_toArray, List.set_cons_zero, List.set_cons_succ])) | ((with_reducible show wpList _ _ _ (_ :: _) _ _); (with_reducible apply wpl_storePH); (· first | exact cell_party | exact cell_i64); (· rfl); (· rfl); (· rfl); (· exact H); (· (repeat (first | (with_reducible exact List.mem_cons_self) | with_reducible apply List.mem_cons_of_mem))); (· (simp only [flow_sz, Nat.reduceLT]; done)); (· (with_reducible first | exact flow_s0 .. | exact flow_s1 .. | exact flow_s2 ..)); (· (repeat (first | (with_reducible exact Repl.here) | with_reducible apply Repl.there))); (clear H; intro _ H); (simp only [Act.put, List.setIfInBounds_toArray, List.set_cons_zero, List.set_cons_succ])))
                | ((with_reducible show wpList _ _ _ (_ :: _) _ _); (with_reducible apply wpl_loadRH row_flow); (· rfl); (· rfl); (· exact H); (· (repeat (first | (with_reducible exact List.mem_cons_self) | with_reducible apply List.mem_cons_of_mem))); (· (simp only [flow_sz, Nat.reduceAdd, Nat.reduceLeDiff, Nat.le_refl]; done)); (· with_reducible exact flow_all ..); (simp only [Act.put, List.setIfInBounds_toArray, List.set_cons_zero, List.set_cons_succ]))
                | ((with_reducible show wpList _ _ _ (_ :: _) _ _); (with_reducible apply wpl_bsRH); (· rfl); (· rfl); (· exact bs_flow); (· exact rfl); (· exact H); (clear H; intro pf _ H); (simp only [Act.put, List.setIfInBounds_toArray, List.set_cons_zero, List.set_cons_succ]))
                | ((with_reducible show wpList _ _ _ (_ :: _) _ _); (with_reducible apply wpl_appendH slF); (· rfl); (· rfl); (· rfl); (· rfl); (· exact H.pull (.there (.there .here))); (· exact H.celRd List.mem_cons_self); (· rfl); (· exact flowC_one _ _ _); (· exact hn1); (· exact hn2); (clear H; intro v2 _ H); (simp only [Act.put, List.setIfInBounds_toArray, List.set_cons_zero, List.set_cons_succ])))
              refine ⟨?_, ?_⟩
              · refine ⟨⟨y + 1, by go_num, by omega, by omega, ?_⟩⟩
                have e : rowE c' x (y + 1) = rowE c' x y := by rw [HR.out, HV2.out, if_neg (by omega), List.append_nil]
                rw [e]
                exact H.tail
              · simp [intOf]; omega
          · rw [if_neg hft] at hv
            have HV2 := Lib.hid hv
            clear hv HV
            have hcase : ((x : Int) == (f : Int)) = false ∨ (((x : Int) == (f : Int)) = true ∧ ((y : Int) == (t : Int)) = false) := by
              by_cases e : x = f
              · subst e
                refine .inr ⟨by simp, ?_⟩
                have : y ≠ t := fun e2 => hft ⟨rfl, e2⟩
                simp; omega
              · exact .inl (by simp; omega)
            clear hft
            by_cases hp : 0 < cv
            · rcases hcase with e1 | ⟨e1, e2⟩
              all_goals
                go_wp2_with (first
                  | go_skip
                  | ((with_reducible refine AnsH.call (by assumption) H ?_); clear H; intro _ H)
                  | ((with_reducible show wpList _ _ _ (_ :: _) _ _); (with_reducible apply wpl_allocRH row_flow); (· rfl); (· exact H); (clear H; intro px _ H); (simp only [Act.put, List.setIfInBounds_toArray, List.set_cons_zero, List.set_cons_succ]))
                  | ((with_reducible show wpList _ _ _ (_ :: _) _ _); (with_reducible apply wpl_storeFlow); (· rfl); (· rfl); (· rfl); (· exact H); (· (repeat (first | (with_reducible exact List.mem_cons_self) | with_reducible apply List.mem_cons_of_mem))); (· (repeat (first | (with_reducible exact Repl.here) | with_reducible apply Repl.there))); (clear H; intro _ H); (simp only [Act.put, List.setIfInBounds_toArray, List.set_cons_zero, List.set_cons_succ]))
                  | ((with_reducible show wpList _ _ _ (_ :: _) _ _); (with_reducible apply wpl_loadCH); (· first | exact cell_party | exact cell_i64); (· rfl); (· rfl); (· exact H); (· (repeat (first | (with_reducible exact List.mem_cons_self) | with_reducible apply List.mem_cons_of_mem))); (· (with_reducible first | exact flow_g0 .. | exact flow_g1 .. | exact flow_g2 ..)); (simp only [Act.put, List.setIfInBounds_toArray, List.set_cons_zero, List.set_cons_succ]))
                  | (first | ((with_reducible show wpList _ _ _ (_ :: _) _ _); (with_reducible apply wpl_storeIH); (· first | exact cell_party | exact cell_i64); (· rfl); (· rfl); (· rfl); (· exact H); (· (repeat (first | (with_reducible exact List.mem_cons_self) | with_reducible apply List.mem_cons_of_mem))); (· (simp only [flow_sz, Nat.reduceLT]; done)); (· (with_reducible first | exact flow_s0 .. | exact flow_s1 .. | exact flow_s2 ..)); (· (repeat (first | (with_reducible exact Repl.here) | with_reducible apply Repl.there))); (clear H; intro _ H); (simp only [Act.put, List.setIfInBounds_toArray, List.set_cons_zero, List.set_cons_succ])) | ((with_reducible show wpList _ _ _ (_ :: _) _ _); (with_reducible apply wpl_storeBH); (· first | exact cell_party | exact cell_i64); (· rfl); (· rfl); (· rfl); (· exact H); (· (repeat (first | (with_reducible exact List.mem_cons_self) | with_reducible apply List.mem_cons_of_mem))); (· (simp only [flow_sz, Nat.reduceLT]; done)); (· (with_reducible first | exact flow_s0 .. | exact flow_s1 .. | exact flow_s2 ..)); (· (repeat (first | (with_reducible exact Repl.here) | with_reducible apply Repl.there))); (clear H; intro _ H); (simp only [Act.put, List.setIfInBounds_toArray, List.set_cons_zero, List.set_cons_succ])) | ((with_reducible show wpList _ _ _ (_ :: _) _ _); (with_reducible apply wpl_storeSH); (· first | exact cell_party | exact cell_i64); (· rfl); (· rfl); (· rfl); (· exact H); (· (repeat (first | (with_reducible exact List.mem_cons_self) | with_reducible apply List.mem_cons_of_mem))); (· (simp only [flow_sz, Nat.reduceLT]; done)); (· (with_reducible first | exact flow_s0 .. | exact flow_s1 .. | exact flow_s2 ..)); (· (repeat (first | (with_reducible exact Repl.here) | with_reducible apply Repl.there))); (clear H; intro _ H); (simp only [Act.put, List.setIfInBounds_toArray, List.set_cons_zero, List.set_cons_succ])) | ((with_reducible show wpList _ _ _ (_ :: _) _ _); (with_reducible apply wpl_storePH); (· first | exact cell_party | exact cell_i64); (· rfl); (· rfl); (· rfl); (· exact H); (· (repeat (first | (with_reducible exact List.mem_cons_self) | with_reducible apply List.mem_cons_of_mem))); (· (simp only [flow_sz, Nat.reduceLT]; done)); (· (with_reducible first | exact flow_s0 .. | exact flow_s1 .. | exact flow_s2 ..)); (· (repeat (first | (with_reducible exact Repl.here) | with_reducible apply Repl.there))); (clear H; intro _ H); (simp only [Act.put, List.setIfInBounds_toArray, List.set_cons_zero, List.set_cons_succ])))
                  | ((with_reducible show wpList _ _ _ (_ :: _) _ _); (with_reducible apply wpl_loadRH row_flow); (· rfl); (· rfl); (· exact H); (· (repeat (first | (with_reducible exact List.mem_cons_self) | with_reducible apply List.mem_cons_of_mem))); (· (simp only [flow_sz, Nat.reduceAdd, Nat.reduceLeDiff, Nat.le_refl]; done)); (· with_reducible exact flow_all ..); (simp only [Act.put, List.setIfInBounds_toArray, List.set_cons_zero, List.set_cons_succ]))
                  | ((with_reducible show wpList _ _ _ (_ :: _) _ _); (with_reducible apply wpl_bsRH); (· rfl); (· rfl); (· exact bs_flow); (· exact rfl); (· exact H); (clear H; intro pf _ H); (simp only [Act.put, List.setIfInBounds_toArray, List.set_cons_zero, List.set_cons_succ]))
                  | ((with_reducible show wpList _ _ _ (_ :: _) _ _); (with_reducible apply wpl_appendH slF); (· rfl); (· rfl); (· rfl); (· rfl); (· exact H.pull (.there (.there .here))); (· exact H.celRd List.mem_cons_self); (· rfl); (· exact flowC_one _ _ _); (· exact hn1); (· exact hn2); (clear H; intro v2 _ H); (simp only [Act.put, List.setIfInBounds_toArray, List.set_cons_zero, List.set_cons_succ])))
                go_roundw
                case rel =>
                  refine ⟨⟨y + 1, by go_num, by omega, by omega, ?_⟩⟩
                  have e : matE c' x ++ rowE c' x (y + 1) = (matE c' x ++ rowE c' x y) ++ [⟨x, y, cv⟩] := by rw [HR.out, HV2.out, if_pos hp, List.append_assoc]
                  rw [e, flT_snoc]
                  exact (H.drop (.there .here)).drop (.there .here)
                case measure => simp [intOf]; omega
            · rcases hcase with e1 | ⟨e1, e2⟩
              all_goals
                go_wp2_with (first
                  | go_skip
                  | ((with_reducible refine AnsH.call (by assumption) H ?_); clear H; intro _ H)
                  | ((with_reducible show wpList _ _ _ (_ :: _) _ _); (with_reducible apply wpl_allocRH row_flow); (· rfl); (· exact H); (clear H; intro px _ H); (simp only [Act.put, List.setIfInBounds_toArray, List.set_cons_zero, List.set_cons_succ]))
                  | ((with_reducible show wpList _ _ _ (_ :: _) _ _); (with_reducible apply wpl_storeFlow); (· rfl); (· rfl); (· rfl); (· exact H); (· (repeat (first | (with_reducible exact List.mem_cons_self) | with_reducible apply List.mem_cons_of_mem))); (· (repeat (first | (with_reducible exact Repl.here) | with_reducible apply Repl.there))); (clear H; intro _ H); (simp only [Act.put, List.setIfInBounds_toArray, List.set_cons_zero, List.set_cons_succ]))
                  | ((with_reducible show wpList _ _ _ (_ :: _) _ _); (with_reducible apply wpl_loadCH); (· first | exact cell_party | exact cell_i64); (· rfl); (· rfl); (· exact H); (· (repeat (first | (with_reducible exact List.mem_cons_self) | with_reducible apply List.mem_cons_of_mem))); (· (with_reducible first | exact flow_g0 .. | exact flow_g1 .. | exact flow_g2 ..)); (simp only [Act.put, List.setIfInBounds_toArray, List.set_cons_zero, List.set_cons_succ]))
                  | (first | ((with_reducible show wpList _ _ _ (_ :: _) _ _); (with_reducible apply wpl_storeIH); (· first | exact cell_party | exact cell_i64); (· rfl); (· rfl); (· rfl); (· exact H); (· (repeat (first | (with_reducible exact List.mem_cons_self) | with_reducible apply List.mem_cons_of_mem))); (· (simp only [flow_sz, Nat.reduceLT]; done)); (· (with_reducible first | exact flow_s0 .. | exact flow_s1 .. | exact flow_s2 ..)); (· (repeat (first | (with_reducible exact Repl.here) | with_reducible apply Repl.there))); (clear H; intro _ H); (simp only [Act.put, List.setIfInBounds_toArray, List.set_cons_zero, List.set_cons_succ])) | ((with_reducible show wpList _ _ _ (_ :: _) _ _); (with_reducible apply wpl_storeBH); (· first | exact cell_party | exact cell_i64); (· rfl); (· rfl); (· rfl); (· exact H); (· (repeat (first | (with_reducible exact List.mem_cons_self) | with_reducible apply List.mem_cons_of_mem))); (· (simp only [flow_sz, Nat.reduceLT]; done)); (· (with_reducible first | exact flow_s0 .. | exact flow_s1 .. | exact flow_s2 ..)); (· (repeat (first | (with_reducible exact Repl.here) | with_reducible apply Repl.there))); (clear H; intro _ H); (simp only [Act.put, List.setIfInBounds_toArray, List.set_cons_zero, List.set_cons_succ])) | ((with_reducible show wpList _ _ _ (_ :: _) _ _); (with_reducible apply wpl_storeSH); (· first | exact cell_party | exact cell_i64); (· rfl); (· rfl); (· rfl); (· exact H); (· (repeat (first | (with_reducible exact List.mem_cons_self) | with_reducible apply List.mem_cons_of_mem))); (· (simp only [flow_sz, Nat.reduceLT]; done)); (· (with_reducible first | exact flow_s0 .. | exact flow_s1 .. | exact flow_s2 ..)); (· (repeat (first | (with_reducible exact Repl.here) | with_reducible apply Repl.there))); (clear H; intro _ H); (simp only [Act.put, List.setIfInBounds_toArray, List.set_cons_zero, List.set_cons_succ])) | ((with_reducible show wpList _ _ _ (_ :: _) _ _); (with_reducible apply wpl_storePH); (· first | exact cell_party | exact cell_i64); (· rfl); (· rfl); (· rfl); (· exact H); (· (repeat (first | (with_reducible exact List.mem_cons_self) | with_reducible apply List.mem_cons_of_mem))); (· (simp only [flow_sz, Nat.reduceLT]; done)); (· (with_reducible first | exact flow_s0 .. | exact flow_s1 .. | exact flow_s2 ..)); (· (repeat (first | (with_reducible exact Repl.here) | with_reducible apply Repl.there))); (clear H; intro _ H); (simp only [Act.put, List.setIfInBounds_toArray, List.set_cons_zero, List.set_cons_succ])))
                  | ((with_reducible show wpList _ _ _ (_ :: _) _ _); (with_reducible apply wpl_loadRH row_flow); (· rfl); (· rfl); (· exact H); (· (repeat (first | (with_reducible exact List.mem_cons_self) | with_reducible apply List.mem_cons_of_mem))); (· (simp only [flow_sz, Nat.reduceAdd, Nat.reduceLeDiff, Nat.le_refl]; done)); (· with_reducible exact flow_all ..); (simp only [Act.put, List.setIfInBounds_toArray, List.set_cons_zero, List.set_cons_succ]))
                  | ((with_reducible show wpList _ _ _ (_ :: _) _ _); (with_reducible apply wpl_bsRH); (· rfl); (· rfl); (· exact bs_flow); (· exact rfl); (· exact H); (clear H; intro pf _ H); (simp only [Act.put, List.setIfInBounds_toArray, List.set_cons_zero, List.set_cons_succ]))
                  | ((with_reducible show wpList _ _ _ (_ :: _) _ _); (with_reducible apply wpl_appendH slF); (· rfl); (· rfl); (· rfl); (· rfl); (· exact H.pull (.there (.there .here))); (· exact H.celRd List.mem_cons_self); (· rfl); (· exact flowC_one _ _ _); (· exact hn1); (· exact hn2); (clear H; intro v2 _ H); (simp only [Act.put, List.setIfInBounds_toArray, List.set_cons_zero, List.set_cons_succ])))
                refine ⟨?_, ?_⟩
                · refine ⟨⟨y + 1, by go_num, by omega, by omega, ?_⟩⟩
                  have e : rowE c' x (y + 1) = rowE c' x y := by rw [HR.out, HV2.out, if_neg (by omega), List.append_nil]
                  rw [e]
                  exact H.tail
                · simp [intOf]; omega
        · obtain rfl : y = 17 := by omega
          have g2 : decide (((17 : Nat) : Int) ≤ 16) = false := by decide
          go_wp2_with (go_skip)
          go_roundw
          case rel => exact ⟨⟨x + 1, by go_num, by omega, by omega, H⟩⟩
          case measure => simp [intOf]; omega
    · obtain rfl : x = 17 := by omega
      obtain ⟨a2, c2, rfl, _, _⟩ := rowT_form (H.ok _ List.mem_cons_self)
      have H2 : Heap W (FlT (.slice a2 (edgesOf c').length c2) (edgesOf c').length (edgesOf c') :: RgT p (.slice a N cc) :: FlT (.slice a N cc) N (edgesOf c) :: l) wr := H
      clear H
      have H := H2
      clear H2
      rw [show (matE c' 17).length = (edgesOf c').length from rfl]
      generalize hN2 : (edgesOf c').length = N2 at *
      have HN2 := Lib.hid hN2
      clear hN2
      go_wp2_with (first
        | go_skip
        | ((with_reducible show wpList _ _ _ (_ :: _) _ _); (with_reducible apply wpl_storeSH); (· exact cell_flows); (· rfl); (· rfl); (· rfl); (· exact H); (· (repeat (first | (with_reducible exact List.mem_cons_self) | with_reducible apply List.mem_cons_of_mem))); (· exact Nat.le_refl 1); (· rfl); (· (repeat (first | (with_reducible exact Repl.here) | with_reducible apply Repl.there))); (clear H; intro _ H); (simp only [Act.put, List.setIfInBounds_toArray, List.set_cons_zero, List.set_cons_succ])))
      go_end0
      have H3 := (H.drop (.there (.there .here))).perm (.swap _ _ _)
      rw [← HN2.out] at H3
      exact ⟨rfl, a2, c2, H3⟩
end
end Go.Proofs.Ytgobnamhdkbbeaa

/- countinghouseref05.New. -/
namespace Go.Proofs.Ytgobnamhdkbbeaa
open Go.RowKit
set_option linter.unusedSimpArgs false
set_option linter.unusedVariables false
def RNewPost (W : World) (l : List Thing) (F : List Flw) (e : Ending) (w' : World) : Prop :=
  (newG F = none ∧ e = .returned (.tuple #[.pointer none, .int .i64 1]) ∧ Heap W l w') ∨ (∃ c p, newG F = some c ∧ e = .returned (.tuple #[.pointer (some ⟨p, 0, none⟩), .int .i64 0]) ∧ GoodC c ∧ BndC c ∧ RgH W l p c w')
theorem edges_zero0 : edgesOf zeroC = [] := List.eq_nil_of_length_eq_zero (by decide +kernel)
theorem RgH.new {W w : World} {l : List Thing} {p : Nat} (H : Heap W (RgT p (.slice none 0 0) :: l) w) : RgH W l p zeroC w := by
  refine ⟨none, 0, ?_⟩
  rw [edges_zero0]
  exact (H.nilRow _ _).perm (.swap _ _ _)
def endsB (a b : Nat) (x : Flw) : Bool := decide (x.f = a ∧ x.t = b)
structure RN (W : World) (l : List Thing) (p : Nat) (F : List Flw) (en : Nat) (i : Value) (wr : World) : Prop where
  out : ∃ (k : Nat) (t : Nat → Nat → Bool) (c : Caps), i = .int .i64 (k : Int) ∧ k ≤ en ∧ newG F = newS (F.drop k) t c ∧ (∀ a b, t a b = (F.take k).any (endsB a b)) ∧ GoodC c ∧ BndC c ∧ RgH W l p c wr
structure RN2 (W : World) (l : List Thing) (F : List Flw) (a b n : Nat) (i : Value) (wr : World) : Prop where
  out : ∃ k : Nat, i = .int .i64 (k : Int) ∧ k ≤ n ∧ (F.take k).any (endsB a b) = false ∧ Heap W l wr
theorem row_rg : RowTy 152 1 (rgC (.slice none 0 0)) := ⟨⟨_, Try.underlying152, rfl⟩, by kernel_rfl, by kernel_rfl⟩
theorem any_mono {F : List Flw} {f : Flw → Bool} {k n : Nat} (h : k ≤ n) (h2 : (F.take k).any f = true) : (F.take n).any f = true := by
  rw [List.any_eq_true] at *
  obtain ⟨x, hx, hf⟩ := h2
  refine ⟨x, ?_, hf⟩
  have : F.take k = (F.take n).take k := by rw [List.take_take, Nat.min_eq_left h]
  rw [this] at hx
  exact List.mem_of_mem_take hx
end Go.Proofs.Ytgobnamhdkbbeaa

/- countinghouseref05: Push, Copy; capacities as a play of pushes keeps them. -/
namespace Go.Proofs.Ytgobnamhdkbbeaa
open Go.RowKit
set_option linter.unusedSimpArgs false
set_option linter.unusedVariables false
theorem flwL_one (F : List Flw) : OneCells (flwL F) := fun u hu => by
  unfold flwL at hu
  rw [List.mem_flatMap] at hu
  obtain ⟨x, _, hx⟩ := hu
  simp only [flwV, List.mem_cons, List.not_mem_nil, or_false] at hx
  rcases hx with rfl | rfl | rfl <;> rfl
structure PlayC (c : Caps) : Prop where
  good : GoodC c
  diag : ∀ a, c a a = 0
  sum : ∀ a b, c a b + c b a ≤ 4398046511104
theorem PlayC.bnd {c : Caps} (h : PlayC c) : BndC c := fun a b => by
  have h1 := h.sum a b
  have h2 := h.good.ge b a
  omega
theorem newS_play : ∀ (F : List Flw) (t : Nat → Nat → Bool) (c c' : Caps), newS F t c = some c' → GoodC c → (∀ a, c a a = 0) → (∀ a b, c a b ≤ 2199023255552) → PlayC c'
  | [], t, c, c', h, hg, hd, hs => by
    simp only [newS, Option.some.injEq] at h
    subst h
    exact ⟨hg, hd, fun a b => by have := hs a b; have := hs b a; omega⟩
  | x :: F, t, c, c', h, hg, hd, hs => by
    by_cases hx : (edgeB x && !t x.f x.t) = true
    · rw [newS_yes hx] at h
      simp only [Bool.and_eq_true, edgeB, decide_eq_true_eq, bne_iff_ne] at hx
      obtain ⟨⟨⟨⟨⟨h1, h2⟩, h3⟩, h4⟩, h5⟩, _⟩ := hx
      refine newS_play F _ _ c' h (hg.upd h1 h2 h4) (fun a => ?_) (fun a b => ?_)
      · unfold upd2
        split
        · rename_i e; exact absurd (e.1.symm.trans e.2) h3
        · exact hd a
      · unfold upd2
        split
        · exact h5
        · exact hs a b
    · rw [newS_no (by simpa using hx)] at h
      cases h
theorem newG_play {F : List Flw} {c : Caps} (h : newG F = some c) : PlayC c :=
  newS_play F _ _ c h GoodC.zero (fun _ => rfl) (fun _ _ => by show (0 : Int) ≤ _; omega)
def pushR (c : Caps) (a b : Nat) (n : Int) : Int := if n < 1 then 1 else if c a b < n then 11 else 0
def pushT (c : Caps) (a b : Nat) (n : Int) : Caps := if n < 1 ∨ c a b < n then c else pushC c a b n
theorem PlayC.ne {c : Caps} (h : PlayC c) {a b : Nat} {n : Int} (h1 : 1 ≤ n) (h2 : n ≤ c a b) : a ≠ b := fun e => by
  subst e
  have := h.diag a
  omega
theorem pushC_eq {c : Caps} {a b : Nat} {n : Int} (h : a ≠ b) : pushC c a b n = upd2 (upd2 c a b (c a b - n)) b a (c b a + n) := by
  unfold pushC
  rw [show upd2 c a b (c a b - n) b a = c b a by unfold upd2; rw [if_neg (fun e => h e.1.symm)]]
theorem PlayC.push {c : Caps} (h : PlayC c) (a b : Nat) (n : Int) : PlayC (pushT c a b n) := by
  unfold pushT
  split
  · exact h
  · rename_i hn
    have hn1 : 1 ≤ n := by omega
    have hn2 : n ≤ c a b := by omega
    have hm := h.good.may a b (by omega)
    have hne := h.ne hn1 hn2
    have hb := h.good.ge b a
    rw [pushC_eq hne]
    refine ⟨(h.good.upd hm.1 hm.2 (by omega)).upd hm.2 hm.1 (by omega), fun x => ?_, fun x y => ?_⟩
    · unfold upd2
      rw [if_neg (fun e => hne (e.2.symm.trans e.1)), if_neg (fun e => hne (e.1.symm.trans e.2))]
      exact h.diag x
    · have h1 := h.sum x y
      have h2 := h.sum a b
      unfold upd2
      by_cases e1 : x = b ∧ y = a
      · obtain ⟨rfl, rfl⟩ := e1
        rw [if_pos ⟨rfl, rfl⟩, if_neg (fun e => hne e.1), if_pos ⟨rfl, rfl⟩]
        omega
      · rw [if_neg e1]
        by_cases e2 : x = a ∧ y = b
        · obtain ⟨rfl, rfl⟩ := e2
          rw [if_pos ⟨rfl, rfl⟩, if_pos ⟨rfl, rfl⟩]
          omega
        · rw [if_neg e2, if_neg (fun e => e2 ⟨e.2, e.1⟩), if_neg (fun e => e1 ⟨e.2, e.1⟩)]
          exact h1
section
variable {W w : World} {l : List Thing} {p : Nat}
set_option maxRecDepth 100000
set_option maxHeartbeats 4000000
theorem rpush_H (c : Caps) (a b : Nat) (n : Int) (ha : a ≤ 255) (hb : b ≤ 255) (h0 : -9223372036854775808 ≤ n) (h1 : n ≤ 9223372036854775807) (hc : PlayC c) (H : RgH W l p c w) :
    Calls Try.prog 101 #[.pointer (some ⟨p, 0, none⟩), .int .u8 (a : Int), .int .u8 (b : Int), .int .i64 n] w fun e w' => e = .returned (.int .i64 (pushR c a b n)) ∧ RgH W l p (pushT c a b n) w' := by
  by_cases hn : n < 1
  · have hd : decide (n < 1) = true := by simp; omega
    have HP := Lib.hid (And.intro (show pushR c a b n = 1 by simp [pushR, hn]) (show pushT c a b n = c by simp [pushT, hn]))
    have HR := Lib.hid H
    clear hc H
    go_enter Try.func101, Try.ntmps101
    go_wp2_with (go_skip)
    go_ret
    rw [HP.out.1, HP.out.2]
    exact ⟨rfl, HR.out⟩
  · obtain ⟨ga, gc, H'⟩ := H
    have hd : decide (n < 1) = false := by simp; omega
    have hle := edges_len c
    have HB := Lib.hid hc.bnd
    have HC := Lib.hid hc
    have hcap := fun (x y : Nat) (hx : x ≤ 255) (hy : y ≤ 255) => rcap_H (W := W) (l := RgT p (.slice ga (edgesOf c).length gc) :: FlT (.slice ga (edgesOf c).length gc) (edgesOf c).length (edgesOf c) :: l) (p := p) (a := ga) (cc := gc) x y hx hy List.mem_cons_self (List.mem_cons_of_mem _ List.mem_cons_self) rfl (by omega) (edges_ok hc.bnd)
    simp only [hc.good.cap] at hcap
    have C1 := hcap a b ha hb
    have C2 := hcap b a hb ha
    have HH := H'
    clear hcap hle H'
    by_cases hn2 : c a b < n
    · have hd2 : decide (n > c a b) = true := by simp; omega
      have hd3 : decide (c a b < n) = true := by simp; omega
      have HP := Lib.hid (And.intro (show pushR c a b n = 11 by simp [pushR, hn, hn2]) (show pushT c a b n = c by simp [pushT, hn2]))
      have H := HH
      clear HH hc
      go_enter Try.func101, Try.ntmps101
      go_wp2_with (first | go_skip | ((with_reducible refine AnsH.call (by assumption) H ?_); clear H; intro _ H))
      go_ret
      rw [HP.out.1, HP.out.2]
      exact ⟨rfl, ga, gc, H⟩
    · have hd2 : decide (n > c a b) = false := by simp; omega
      have hd3 : decide (c a b < n) = false := by simp; omega
      have hne := hc.ne (show 1 ≤ n by omega) (show n ≤ c a b by omega)
      have hm := hc.good.may a b (by omega)
      have hge := hc.good.ge b a
      have hsum := hc.sum a b
      have hs1 : wrap64 (c a b - n) = c a b - n := IntWalk.wrap64_in _ ⟨by omega, by omega⟩
      have hs2 : wrap64 (c b a + n) = c b a + n := IntWalk.wrap64_in _ ⟨by omega, by omega⟩
      have HP := Lib.hid (And.intro (show pushR c a b n = 0 by simp [pushR, hn, hn2]) (show pushT c a b n = upd2 (upd2 c a b (c a b - n)) b a (c b a + n) by rw [← pushC_eq hne]; simp [pushT, hn, hn2]))
      have S1 := Lib.hid (show ∀ w', RgH W l p c w' → _ from fun w' h => rset_H (W := W) (l := l) (p := p) (w := w') c a b (c a b - n) hm.1 hm.2 (by omega) (by omega) hc.good hc.bnd h)
      have S2 := Lib.hid (show ∀ w', RgH W l p (upd2 c a b (c a b - n)) w' → _ from fun w' h => rset_H (W := W) (l := l) (p := p) (w := w') (upd2 c a b (c a b - n)) b a (c b a + n) hm.2 hm.1 (by omega) (by omega) (hc.good.upd hm.1 hm.2 (by omega)) (hc.bnd.upd (by omega)) h)
      have H := HH
      clear HH hc hm hne
      go_enter Try.func101, Try.ntmps101
      go_wp2_with (first | go_skip | ((with_reducible refine AnsH.call (by assumption) H ?_); clear H; intro _ H))
      try rw [hs1]
      refine (S1.out _ ⟨ga, gc, H⟩).mono ?_
      clear H C1 C2
      rintro e w2 ⟨rfl, H⟩
      go_wp2_with (go_skip)
      try rw [hs2]
      refine (S2.out _ H).mono ?_
      clear H
      rintro e w3 ⟨rfl, H⟩
      have HR := Lib.hid H
      clear H
      go_wp2_with (go_skip)
      go_ret
      rw [HP.out.1, HP.out.2]
      exact ⟨rfl, HR.out⟩
theorem rcopy_H (F : List Flw) (n : Nat) (a : Option Addr) (cc : Nat) (hl : F.length = n) (hn : n ≤ 1000000) (m1 : RgT p (.slice a n cc) ∈ l) (m2 : FlT (.slice a n cc) n F ∈ l) (H : Heap W l w) :
    Calls Try.prog 98 #[.pointer (some ⟨p, 0, none⟩)] w fun e w' => ∃ q a' c', e = .returned (.pointer (some ⟨q, 0, none⟩)) ∧ Heap W (RgT q (.slice a' n c') :: FlT (.slice a' n c') n F :: l) w' := by
  have hn1 : 0 + n ≤ maxLen := by unfold maxLen; omega
  have hn2 : (0 + n) * 16 ≤ 140737488355328 := by omega
  have hlen : (flwL F).length = n * 3 := by rw [flwL_len, hl]
  go_enter Try.func98, Try.ntmps98
  go_wp2_with (first
    | go_skip
    | ((with_reducible show wpList _ _ _ (_ :: _) _ _); (with_reducible apply wpl_loadCH); (· exact cell_flows); (· rfl); (· rfl); (· exact H); (· exact m1); (· exact rgC_g _); (simp only [Act.put, List.setIfInBounds_toArray, List.set_cons_zero, List.set_cons_succ]))
    | ((with_reducible show wpList _ _ _ (_ :: _) _ _); (with_reducible apply wpl_appendA slF); (· rfl); (· rfl); (· rfl); (· rfl); (· exact H.nilRow 32 3); (· exact rowT_rd H m2); (· exact hlen); (· exact flwL_one F); (· exact hn1); (· exact hn2); (clear H; intro v2 w2 _ H; rw [Nat.zero_add, List.nil_append] at H; obtain ⟨a2, c2, rfl, _, _⟩ := rowT_form (H.ok _ List.mem_cons_self)); (simp only [Act.put, List.setIfInBounds_toArray, List.set_cons_zero, List.set_cons_succ]))
    | ((with_reducible show wpList _ _ _ (_ :: _) _ _); (with_reducible apply wpl_boxRH); (· rfl); (· rfl); (· exact H); (clear H; intro q _ H); (simp only [Act.put, List.setIfInBounds_toArray, List.set_cons_zero, List.set_cons_succ])))
  go_ret
  exact ⟨q, a2, c2, rfl, H⟩
end
end Go.Proofs.Ytgobnamhdkbbeaa

/- Distances by breadth: plain laws, with no program in sight. -/
namespace Go.Proofs.Ytgobnamhdkbbeaa
set_option linter.unusedVariables false
/-- A value of one more place. -/
def updN {α : Type} (d : Nat → α) (p : Nat) (v : α) : Nat → α := fun q => if q = p then v else d q
/-- How many of the parties have no distance. -/
def und (d : Nat → Nat) : Nat := (List.range' 1 16).countP fun p => d p == 17
theorem countP_upd (d : Nat → Nat) (p v : Nat) (hv : v ≠ 17) (hd : d p = 17) : ∀ (l : List Nat), l.Nodup → l.countP (fun q => updN d p v q == 17) + (if p ∈ l then 1 else 0) = l.countP (fun q => d q == 17)
  | [], _ => by simp
  | x :: l, h => by
    have ih := countP_upd d p v hv hd l (List.nodup_cons.1 h).2
    have hx := (List.nodup_cons.1 h).1
    by_cases e : x = p
    · subst e
      have h1 : (updN d x v x == 17) = false := by simp [updN, hv]
      have h2 : (d x == 17) = true := by simp [hd]
      simp only [List.countP_cons, h1, h2]
      rw [if_neg hx] at ih
      simp
      omega
    · have e2 : updN d p v x = d x := by simp [updN, e]
      have hm : (p ∈ x :: l) ↔ p ∈ l := by
        rw [List.mem_cons]
        exact ⟨fun h => h.resolve_left (fun h => e h.symm), .inr⟩
      simp only [List.countP_cons, e2, hm]
      omega
theorem und_upd {d : Nat → Nat} {p v : Nat} (hv : v ≠ 17) (hd : d p = 17) (h1 : 1 ≤ p) (h2 : p ≤ 16) : und (updN d p v) + 1 = und d := by
  have := countP_upd d p v hv hd (List.range' 1 16) (List.nodup_range' ..)
  rw [if_pos (by rw [List.mem_range']; exact ⟨p - 1, by omega, by omega⟩)] at this
  exact this
theorem und_le (d : Nat → Nat) : und d ≤ 16 := by
  have := List.countP_le_length (p := fun p => d p == 17) (l := List.range' 1 16)
  simpa [und] using this
/-- The state ahead of a round: who has a distance, and who waits. -/
structure Bfs (A : Nat → Nat → Bool) (t : Nat) (d : Nat → Nat) (Q : List Nat) : Prop where
  top : d t = 0
  le : ∀ p, d p ≤ 17
  ins : ∀ p, d p < 17 → 1 ≤ p ∧ p ≤ 16
  qd : ∀ q ∈ Q, d q < 17
  near : ∀ q ∈ Q, ∀ p, d p < 17 → d p ≤ d q + 1
  sort : Q.Pairwise fun x y => d x ≤ d y
  closed : ∀ q, d q < 17 → q ∉ Q → ∀ p, A p q = true → d p ≤ d q + 1
  par : ∀ p, d p < 17 → p ≠ t → ∃ q, A p q = true ∧ d q + 1 = d p
  cnt : ∀ p, d p < 17 → d p + und d ≤ 15
/-- The state in the midst of a round: a is gone through, up to k. -/
structure BfsIn (A : Nat → Nat → Bool) (t : Nat) (d : Nat → Nat) (Q : List Nat) (a k : Nat) : Prop where
  top : d t = 0
  le : ∀ p, d p ≤ 17
  ins : ∀ p, d p < 17 → 1 ≤ p ∧ p ≤ 16
  qd : ∀ q ∈ Q, d q < 17
  near : ∀ q ∈ Q, ∀ p, d p < 17 → d p ≤ d q + 1
  sort : Q.Pairwise fun x y => d x ≤ d y
  ad : d a < 17
  nearA : ∀ p, d p < 17 → d p ≤ d a + 1
  sortA : ∀ q ∈ Q, d a ≤ d q
  closed : ∀ q, d q < 17 → q ∉ Q → q ≠ a → ∀ p, A p q = true → d p ≤ d q + 1
  part : ∀ p, p < k → A p a = true → d p ≤ d a + 1
  par : ∀ p, d p < 17 → p ≠ t → ∃ q, A p q = true ∧ d q + 1 = d p
  cnt : ∀ p, d p < 17 → d p + und d ≤ 15
section
variable {A : Nat → Nat → Bool} {t a k : Nat} {d : Nat → Nat} {Q : List Nat}
/-- No distance. -/
def farN : Nat → Nat := fun _ => 17
theorem farN_at (p : Nat) : farN p = 17 := rfl
theorem Bfs.start (h1 : 1 ≤ t) (h2 : t ≤ 16) : Bfs A t (updN farN t 0) [t] := by
  have hd : ∀ p, updN farN t 0 p < 17 → p = t := fun p hp => by
    unfold updN at hp
    split at hp
    · assumption
    · rw [farN_at] at hp; omega
  have hu : und (updN farN t 0) ≤ 15 := by
    have := und_upd (d := farN) (p := t) (v := 0) (by omega) rfl h1 h2
    have := und_le farN
    omega
  have ht : updN farN t 0 t = 0 := by simp [updN]
  have hle : ∀ p, updN farN t 0 p ≤ 17 := fun p => by
    unfold updN
    split
    · omega
    · rw [farN_at]; omega
  refine ⟨ht, hle, fun p hp => (by rw [hd p hp]; exact ⟨h1, h2⟩), fun q hq => (by simp at hq; subst hq; rw [ht]; omega), fun q hq p hp => (by rw [hd p hp, ht]; omega), List.pairwise_singleton _ _, fun q hq hn => ?_, fun p hp hn => absurd (hd p hp) hn, fun p hp => (by rw [hd p hp, ht]; omega)⟩
  rw [hd q hq] at hn
  simp at hn
theorem Bfs.pop (h : Bfs A t d (a :: Q)) (h0 : A 0 a = false) : BfsIn A t d Q a 1 :=
  ⟨h.top, h.le, h.ins, fun q hq => h.qd q (List.mem_cons_of_mem _ hq), fun q hq => h.near q (List.mem_cons_of_mem _ hq), (List.pairwise_cons.1 h.sort).2, h.qd a (List.mem_cons_self ..), h.near a (List.mem_cons_self ..), (List.pairwise_cons.1 h.sort).1,
    fun q hq hn hne => h.closed q hq (by simp [hne, hn]), fun p hp hA => (by
      obtain rfl : p = 0 := by omega
      rw [h0] at hA; cases hA), h.par, h.cnt⟩
theorem BfsIn.no (h : BfsIn A t d Q a k) (hk : ¬ (d k = 17 ∧ A k a = true)) : BfsIn A t d Q a (k + 1) :=
  ⟨h.top, h.le, h.ins, h.qd, h.near, h.sort, h.ad, h.nearA, h.sortA, h.closed, fun p hp hA => (by
      by_cases e : p = k
      · subst e
        have : d p ≠ 17 := fun e => hk ⟨e, hA⟩
        have := h.le p
        exact h.nearA p (by omega)
      · exact h.part p (by omega) hA), h.par, h.cnt⟩
theorem BfsIn.yes (h : BfsIn A t d Q a k) (hd : d k = 17) (hA : A k a = true) (h1 : 1 ≤ k) (h2 : k ≤ 16) : BfsIn A t (updN d k (d a + 1)) (Q ++ [k]) a (k + 1) ∧ und (updN d k (d a + 1)) + 1 = und d := by
  have hka : a ≠ k := fun e => by have := h.ad; rw [e] at this; omega
  have hca := h.cnt a h.ad
  have hu : und (updN d k (d a + 1)) + 1 = und d := und_upd (by omega) hd h1 h2
  have old : ∀ p, p ≠ k → updN d k (d a + 1) p = d p := fun p hp => by simp [updN, hp]
  have new : updN d k (d a + 1) k = d a + 1 := by simp [updN]
  have hqk : ∀ q ∈ Q, q ≠ k := fun q hq e => by have := h.qd q hq; rw [e] at this; omega
  have htk : t ≠ k := fun e => by have := h.top; rw [e] at this; omega
  refine ⟨⟨by rw [old t htk]; exact h.top, fun p => ?_, fun p hp => ?_, fun q hq => ?_, fun q hq p hp => ?_, ?_, by rw [old a hka]; exact h.ad, fun p hp => ?_, fun q hq => ?_, fun q hq hn hne p hAp => ?_, fun p hp hAp => ?_, fun p hp hne => ?_, fun p hp => ?_⟩, hu⟩
  · by_cases e : p = k
    · subst e; rw [new]; omega
    · rw [old p e]; exact h.le p
  · by_cases e : p = k
    · subst e; exact ⟨h1, h2⟩
    · rw [old p e] at hp; exact h.ins p hp
  · rcases List.mem_append.1 hq with hq | hq
    · rw [old q (hqk q hq)]; exact h.qd q hq
    · obtain rfl : q = k := by simpa using hq
      rw [new]; omega
  · have hp' : updN d k (d a + 1) p ≤ d a + 1 := by
      by_cases e : p = k
      · subst e; rw [new]; omega
      · rw [old p e] at hp ⊢; exact h.nearA p hp
    rcases List.mem_append.1 hq with hq | hq
    · rw [old q (hqk q hq)]
      have := h.sortA q hq
      omega
    · obtain rfl : q = k := by simpa using hq
      rw [new]; omega
  · rw [List.pairwise_append]
    refine ⟨?_, List.pairwise_singleton _ _, fun x hx y hy => ?_⟩
    · refine h.sort.imp_of_mem fun hx hy hxy => ?_
      rw [old _ (hqk _ hx), old _ (hqk _ hy)]; exact hxy
    · obtain rfl : y = k := by simpa using hy
      rw [old x (hqk x hx), new]
      exact h.nearA x (h.qd x hx)
  · rw [old a hka]
    by_cases e : p = k
    · subst e; rw [new]; omega
    · rw [old p e] at hp ⊢; exact h.nearA p hp
  · rw [old a hka]
    rcases List.mem_append.1 hq with hq | hq
    · rw [old q (hqk q hq)]; exact h.sortA q hq
    · obtain rfl : q = k := by simpa using hq
      rw [new]; omega
  · have hqk' : q ≠ k := fun e => hn (by simp [e])
    rw [old q hqk'] at hq ⊢
    have := h.closed q hq (fun hm => hn (by simp [hm])) hne p hAp
    by_cases e : p = k
    · subst e; rw [hd] at this; omega
    · rw [old p e]; exact this
  · rw [old a hka]
    by_cases e : p = k
    · subst e; rw [new]; omega
    · rw [old p e]; exact h.part p (by omega) hAp
  · by_cases e : p = k
    · subst e
      exact ⟨a, hA, by rw [old a hka, new]⟩
    · rw [old p e] at hp
      obtain ⟨q, hq, he⟩ := h.par p hp hne
      have hqk' : q ≠ k := fun e2 => by rw [e2, hd] at he; have := h.le p; omega
      exact ⟨q, hq, by rw [old q hqk', old p e]; exact he⟩
  · by_cases e : p = k
    · subst e; rw [new]; omega
    · rw [old p e] at hp ⊢
      have := h.cnt p hp
      omega
theorem BfsIn.done (h : BfsIn A t d Q a 17) (hA : ∀ p q, A p q = true → p ≤ 16) : Bfs A t d Q :=
  ⟨h.top, h.le, h.ins, h.qd, h.near, h.sort, fun q hq hn p hAp => (by
    by_cases e : q = a
    · subst e; exact h.part p (by have := hA p q hAp; omega) hAp
    · exact h.closed q hq hn e p hAp), h.par, h.cnt⟩
/-- Distances to t: each is reached over a neighbour one nearer; no neighbour is two nearer. -/
structure IsDist (A : Nat → Nat → Bool) (t : Nat) (d : Nat → Nat) : Prop where
  top : d t = 0
  le : ∀ p, d p ≤ 17
  ins : ∀ p, d p < 17 → 1 ≤ p ∧ p ≤ 16 ∧ d p ≤ 15
  step : ∀ p q, A p q = true → d p ≤ d q + 1
  par : ∀ p, d p < 17 → p ≠ t → ∃ q, A p q = true ∧ d q + 1 = d p
theorem Bfs.dist (h : Bfs A t d []) : IsDist A t d :=
  ⟨h.top, h.le, fun p hp => ⟨(h.ins p hp).1, (h.ins p hp).2, by have := h.cnt p hp; omega⟩, fun p q hA => (by
    by_cases hq : d q < 17
    · exact h.closed q hq (by simp) p hA
    · have := h.le p; omega), h.par⟩
/-- There is one such table alone. -/
theorem IsDist.eq {d e : Nat → Nat} (h : IsDist A t d) (g : IsDist A t e) : ∀ p, d p = e p := by
  have one : ∀ {d e : Nat → Nat}, IsDist A t d → IsDist A t e → ∀ n p, e p = n → n < 17 → d p ≤ n := by
    intro d e h g n
    induction n with
    | zero =>
      intro p hp _
      by_cases e1 : p = t
      · subst e1; rw [h.top]; omega
      · obtain ⟨q, _, hq⟩ := g.par p (by omega) e1
        omega
    | succ n ih =>
      intro p hp hn
      by_cases e1 : p = t
      · subst e1; rw [h.top]; omega
      · obtain ⟨q, hA, hq⟩ := g.par p (by omega) e1
        have := ih q (by omega) (by omega)
        have := h.step p q hA
        omega
  intro p
  have h1 := h.le p
  have h2 := g.le p
  by_cases hd : d p < 17
  · have a1 := one g h (d p) p rfl hd
    by_cases he : e p < 17
    · have := one h g (e p) p rfl he; omega
    · omega
  · by_cases he : e p < 17
    · have := one h g (e p) p rfl he; omega
    · omega
end
end Go.Proofs.Ytgobnamhdkbbeaa
