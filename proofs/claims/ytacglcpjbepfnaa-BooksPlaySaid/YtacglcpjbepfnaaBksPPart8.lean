/- Part 8 of what ProofBooksPlay stands on: HeapPair, HeapPair2, QCell, Ref4a, HeapSoft2. -/
import Derived.Test.YtacglcpjbepfnaaBksPPart7
/- A region that draws its order, where two allocs may come in either order. -/
namespace Go.Proofs.Ytacglcpjbepfnaa
open Go.RowKit
set_option linter.unusedVariables false
section
variable {P : Program} {ops : Array Oper} {md : Region.Mode} {W : World} {G : List Thing → Prop}
/-- Is this order one that serves? (i, some j: i and j come in either order.) -/
def Region.lexM (md : Region.Mode) (ops : Array Oper) (loud : List Nat) : List (Nat × Option Nat) → Array Bool → Bool
  | [], listed => (Region.ready md ops listed).isEmpty
  | (k, none) :: ks, listed => (if loud.contains k then Region.ready md ops listed == [k] else (Region.ready md ops listed).contains k && Region.free md ops listed k) && Region.lexM md ops loud ks (listed.setIfInBounds k true)
  | (i, some j) :: ks, listed => (Region.ready md ops listed == [i, j]) && (Region.ready md ops (listed.setIfInBounds i true) == [j]) && (Region.ready md ops (listed.setIfInBounds j true) == [i]) && i != j && Region.lexM md ops loud ks ((listed.setIfInBounds i true).setIfInBounds j true)
def lenM : List (Nat × Option Nat) → Nat
  | [] => 0
  | (_, none) :: ks => lenM ks + 1
  | (_, some _) :: ks => lenM ks + 2
def Region.lexMB (ops : Array Oper) (loud : List Nat) (ord : List (Nat × Option Nat)) : Bool := Region.noSelect ops && Region.lexM .any ops loud ord (Array.replicate ops.size false) && lenM ord == ops.size
def wpM (P : Program) (ops : Array Oper) (W : World) (G : List Thing → Prop) (loud : List Nat) (K : List Thing → Act → Prop) : List (Nat × Option Nat) → List Thing → Act → Prop
  | [], l, a => K l a
  | (k, none) :: ks, l, a => ∃ o, ops[k]? = some o ∧ if loud.contains k then LoudG P ops W o l a fun l' u => G l' ∧ wpM P ops W G loud K ks l' (a.put o.dst u)
      else ∃ v, YieldsG P ops W G o v a ∧ wpM P ops W G loud K ks l (a.put o.dst v)
  | (i, some j) :: ks, l, a => ∃ oi oj, ops[i]? = some oi ∧ ops[j]? = some oj ∧
      (LoudG P ops W oi l a fun l1 u => G l1 ∧ LoudG P ops W oj l1 (a.put oi.dst u) fun l2 u2 => G l2 ∧ wpM P ops W G loud K ks l2 ((a.put oi.dst u).put oj.dst u2)) ∧
      (LoudG P ops W oj l a fun l1 u => G l1 ∧ LoudG P ops W oi l1 (a.put oj.dst u) fun l2 u2 => G l2 ∧ wpM P ops W G loud K ks l2 ((a.put oj.dst u).put oi.dst u2))
theorem WholeG.lexM {loud : List Nat} {K : List Thing → Act → Prop} (hsel : Region.noSelect ops = true) :
    ∀ (ks : List (Nat × Option Nat)) (l : List Thing) (listed : Array Bool) (a : Act), Region.lexM md ops loud ks listed = true → wpM P ops W G loud K ks l a → WholeG P md ops W G K (lenM ks) l listed a := by
  intro ks
  induction ks with
  | nil => intro l listed a hB h; exact ⟨by simpa [Region.lexM] using hB, h⟩
  | cons k ks ih =>
    intro l listed a hB h
    obtain ⟨i, j⟩ := k
    cases j with
    | none =>
      obtain ⟨o, h0, h⟩ := h
      rw [Region.lexM] at hB
      simp only [Bool.and_eq_true] at hB
      obtain ⟨hB, hB'⟩ := hB
      by_cases hk : loud.contains i = true
      · rw [if_pos hk] at h hB
        have hr : Region.ready md ops listed = [i] := by simpa using hB
        refine ⟨by rw [hr]; simp, fun i' hi => ?_⟩
        rw [hr] at hi
        obtain rfl : i' = i := by simpa using hi
        exact ⟨o, h0, .inr (h.mono fun l' u ⟨hg, h⟩ => ⟨hg, ih _ _ _ hB' h⟩)⟩
      · rw [if_neg hk] at h hB
        simp only [Bool.and_eq_true] at hB
        obtain ⟨v, hy, h⟩ := h
        exact WholeG.first h0 (Region.noSelect_spec hsel) (lenM ks) l listed a (Region.free_spec h0 hB.2) (by simpa using hB.1) hy (ih _ _ _ hB' h)
    | some j =>
      obtain ⟨oi, oj, hi0, hj0, h1, h2⟩ := h
      rw [Region.lexM] at hB
      simp only [Bool.and_eq_true, beq_iff_eq, bne_iff_ne, ne_eq] at hB
      obtain ⟨⟨⟨⟨r0, r1⟩, r2⟩, hne⟩, hB'⟩ := hB
      refine ⟨by rw [r0]; simp, fun k hk => ?_⟩
      rw [r0] at hk
      simp only [List.mem_cons, List.not_mem_nil, or_false] at hk
      rcases hk with rfl | rfl
      · refine ⟨oi, hi0, .inr (h1.mono fun l1 u ⟨hg, h⟩ => ⟨hg, ?_⟩)⟩
        refine ⟨by rw [r1]; simp, fun k2 hk2 => ?_⟩
        rw [r1] at hk2
        obtain rfl : k2 = j := by simpa using hk2
        exact ⟨oj, hj0, .inr (h.mono fun l2 u2 ⟨hg, h⟩ => ⟨hg, ih _ _ _ hB' h⟩)⟩
      · refine ⟨oj, hj0, .inr (h2.mono fun l1 u ⟨hg, h⟩ => ⟨hg, ?_⟩)⟩
        refine ⟨by rw [r2]; simp, fun k2 hk2 => ?_⟩
        rw [r2] at hk2
        obtain rfl : k2 = i := by simpa using hk2
        refine ⟨oi, hi0, .inr (h.mono fun l2 u2 ⟨hg, h⟩ => ⟨hg, ?_⟩)⟩
        rw [Array.setIfInBounds_comm _ _ (fun e => hne e.symm)]
        exact ih _ _ _ hB' h
end
section
variable {W : World} {G : List Thing → Prop} {loud : List Nat} {K : List Thing → Act → Prop} {lo : List Oper} {ks : List (Nat × Option Nat)} {k : Nat} {l : List Thing} {a : Act} {T n : Nat} {z : Array Value}
theorem LoudG.perm {ops : Array Oper} {o : Oper} {k k' : List Thing → Value → Prop} (h : LoudG Try.prog ops W o l a k) (hk : ∀ l' u, k l' u → ∃ l2, l'.Perm l2 ∧ k' l2 u) : LoudG Try.prog ops W o l a k' :=
  ⟨h.1, fun w H => by
    obtain ⟨l', u, w', hr, H', hk1⟩ := h.2 w H
    obtain ⟨l2, hp, hk2⟩ := hk _ _ hk1
    exact ⟨l2, u, w', hr, H'.perm hp, hk2⟩⟩
end
end Go.Proofs.Ytacglcpjbepfnaa

/- A region that draws: a copy of a row made by append and a slice literal, in either order; an append, a store. -/
namespace Go.Proofs.Ytacglcpjbepfnaa
open Go.RowKit
set_option linter.unusedVariables false
section
variable {W : World} {G : List Thing → Prop} {loud : List Nat} {K : List Thing → Act → Prop} {lo : List Oper} {ks : List (Nat × Option Nat)} {k : Nat} {l r : List Thing} {a : Act} {dst : Option Tmp} {ty : TypeId} {pos : String} {after : Array Edge} {ops : Array Oper}
/-- append(nil, s...). -/
theorem loud_clone {t e size bytes : Nat} {z : Value} (T : SlTy Try.prog t e size bytes z) {s x : Operand}
    {ao : Option Addr} {m c : Nat} {news : List Value} (hs : a.eval s = .slice none 0 0) (hx : a.eval x = .slice ao m c) (R : ∀ w', Heap W l w' → Rd w' ao news)
    (hl : news.length = m * size) (h1 : OneCells news) (h63 : m ≤ maxLen) (hbytes : m * bytes ≤ 140737488355328) {kk : List Thing → Value → Prop}
    (h : ∀ a' c', kk (RowT e size (.slice a' m c') m news :: l) (.slice a' m c')) : LoudG Try.prog ops W ⟨dst, .call { callee := .builtin .append, args := #[s, x], argTypes := #[t, t] }, ty, pos, after, none⟩ l a kk := by
  have fin : ∀ v', (∃ a' c', v' = .slice a' m c') → kk (RowT e size v' m news :: l) v' := by
    rintro _ ⟨a', c', rfl⟩
    exact h a' c'
  refine ⟨rfl, fun w H0 => ?_⟩
  have H : Heap W (RowT e size (.slice none 0 0) 0 [] :: l) w := H0.nilRow e size
  have hrd := R w H0
  by_cases hm : m = 0
  · subst hm
    have hn0 : news = [] := List.eq_nil_of_length_eq_zero (by simpa using hl)
    subst hn0
    obtain ⟨i, hi, hz, hsi, hbi⟩ := T.inf
    have hr : (Builtin.append_ #[t, t] ty #[.slice none 0 0, .slice ao 0 c]).run Try.prog w = .ok (.slice none 0 0) w := by
      cases ao <;> simp [Builtin.append_, run_underlying T.und, sizeOf, typeInfo, hi, Builtin.lenOf, Builtin.firstCells, loadCells, loadCellsFrom]
    refine ⟨_, .slice none 0 0, w, .inl ?_, H, fin _ ⟨_, _, rfl⟩⟩
    unfold execOp
    simp only [resolve, invoke, builtin, Sem.run_bind, Sem.run_pure, Result.andThen_ok, List.map_toArray, List.map_cons, List.map_nil, hs, hx, hr]
  · obtain ⟨b, o, rfl, _⟩ := hrd.lt (by rw [hl]; have := T.pos; exact Nat.mul_pos (by omega) this)
    have hown : w.ownsRow 0 e size (.slice none 0 0) 0 [] := H.ok _ List.mem_cons_self
    obtain ⟨i, hi, hz, hsz, hbb⟩ := T.inf
    have hnw := hrd.addr
    obtain ⟨v1, w1, hr1, hbl⟩ := run_append_block w T ty 0 (.slice none 0 0) 0 [] hown ⟨b, o, none⟩ m c news hl hnw h1 (by omega) (by rw [Nat.zero_add]; exact hbytes)
    obtain ⟨v', w', hr, h2, h3, h4⟩ := run_append_own (P := Try.prog) w 0 t ty e i z size bytes T.und hi hz hsz hbb T.zc T.pos (.slice none 0 0) 0 [] hown ⟨b, o, none⟩ m c news hl hnw h1 (by omega) (by rw [Nat.zero_add]; exact hbytes) (Nat.zero_le _)
    rw [hr1] at hr
    simp only [Result.ok.injEq] at hr
    obtain ⟨rfl, rfl⟩ := hr
    rw [Nat.zero_add, List.nil_append] at h2
    have H2 : Heap W (RowT e size v1 m news :: l) w1 := H.head h3 h2 (by
      rcases hbl with hbl | hbl
      · exact .inl hbl
      · refine .inr fun j hj => ?_
        have h5 := ownsRow_fp h2 j hj
        have hj' : v1.ownBlock = some j := hj
        rw [hbl] at hj'
        cases hj'
        exact ⟨Nat.le_refl _, h5.2⟩)
    have hf : ∃ a' c', v1 = .slice a' m c' := by
      obtain ⟨a', c', e, _, _⟩ := RowT.form0 (H2.ok _ List.mem_cons_self)
      exact ⟨a', c', e⟩
    refine ⟨_, v1, w1, .inl ?_, H2, fin _ hf⟩
    unfold execOp
    simp only [resolve, invoke, builtin, Sem.run_bind, Sem.run_pure, Result.andThen_ok, List.map_toArray, List.map_cons, List.map_nil, hs, hx, hr1]
theorem loud_bs {x : Operand} {t e : TypeId} {c zs : Array Value} (hx : a.eval x = .agg c)
    (hT : Try.prog.underlying t = some (.slice e) ∧ (Try.prog.info? e).map (fun i => (i.size, i.zero.map Value.cells)) = some (zs.size, some zs) ∧ 0 < zs.size ∧ zs.size ≤ 65536) (hv : c.size = zs.size) {kk : List Thing → Value → Prop}
    (h : ∀ p, kk (Cel p c e :: l) (.slice (some ⟨p, 0, none⟩) 1 1)) : LoudG Try.prog ops W ⟨dst, .buildSlice t 1 #[(0, x)], ty, pos, after, none⟩ l a kk := by
  refine ⟨rfl, fun w H => ⟨_, _, _, .inl ?_, H.alloc c e, h _⟩⟩
  unfold execOp
  simp only [List.map_toArray, List.map_cons, List.map_nil, hx, Sem.run_bind, run_buildSlice1 hT.1 hT.2.1 hT.2.2.1 hT.2.2.2 (.agg c) hv, Result.andThen_ok, Sem.run_pure]
  rfl
theorem loud_append {t e size bytes : Nat} {z : Value} (T : SlTy Try.prog t e size bytes z) {s x : Operand}
    {v : Value} {b m c n : Nat} {xs news : List Value} {cc : Array Value} {te : TypeId} (hs : a.eval s = v) (hx : a.eval x = .slice (some ⟨b, 0, none⟩) m c) (pl : Pull l (RowT e size v n xs) r) (mb : Cel b cc te ∈ l) (hnews : cc.toList = news)
    (hl : news.length = m * size) (h1 : OneCells news) (h63 : n + m ≤ maxLen) (hbytes : (n + m) * bytes ≤ 140737488355328) {kk : List Thing → Value → Prop}
    (h : ∀ a' c', kk (RowT e size (.slice a' (n + m) c') (n + m) (xs ++ news) :: r) (.slice a' (n + m) c')) : LoudG Try.prog ops W ⟨dst, .call { callee := .builtin .append, args := #[s, x], argTypes := #[t, t] }, ty, pos, after, none⟩ l a kk := by
  refine ⟨rfl, fun w H => ?_⟩
  have H2 := H.pull pl
  have hown : w.ownsRow 0 e size v n xs := H2.ok _ List.mem_cons_self
  have hrd := H.celRd mb
  rw [hnews] at hrd
  obtain ⟨i, hi, hz, hsz, hb⟩ := T.inf
  have hnw := hrd.addr
  obtain ⟨v1, w1, hr1, hbl⟩ := run_append_block w T ty 0 v n xs hown ⟨b, 0, none⟩ m c news hl hnw h1 h63 hbytes
  obtain ⟨v', w', hr, h2, h3, h4⟩ := run_append_own (P := Try.prog) w 0 t ty e i z size bytes T.und hi hz hsz hb T.zc T.pos v n xs hown ⟨b, 0, none⟩ m c news hl hnw h1 h63 hbytes (Nat.zero_le _)
  rw [hr1] at hr
  simp only [Result.ok.injEq] at hr
  obtain ⟨rfl, rfl⟩ := hr
  have H3 : Heap W (RowT e size v1 (n + m) (xs ++ news) :: r) w1 := H2.head h3 h2 (by
    rcases hbl with hbl | hbl
    · exact .inl hbl
    · refine .inr fun j hj => ?_
      have h5 := ownsRow_fp h2 j hj
      have hj' : v1.ownBlock = some j := hj
      rw [hbl] at hj'
      cases hj'
      exact ⟨Nat.le_refl _, h5.2⟩)
  obtain ⟨a', c', rfl, _, _⟩ := RowT.form0 (H3.ok _ List.mem_cons_self)
  refine ⟨_, _, w1, .inl ?_, H3, h _ _⟩
  unfold execOp
  simp only [resolve, invoke, builtin, Sem.run_bind, Sem.run_pure, Result.andThen_ok, List.map_toArray, List.map_cons, List.map_nil, hs, hx, hr1]
theorem loud_storeC {T : TypeId} {guard : Option (Nat × Bool)} {x y : Operand} {b off : Nat} {v : Value} (CT : CellTy T) (hw : Region.wanted ⟨dst, .store T x y, ty, pos, after, guard⟩ (yielded ops a.tmps) = true) (hx : a.eval x = .pointer (some ⟨b, off, none⟩)) (hy : a.eval y = v) (hc : v.cells = #[v] ∧ v.oneCell' = true)
    {c c1 : Array Value} {t : TypeId} {l' : List Thing} (m : Cel b c t ∈ l) (hn : off < c.size) (hs : c.setIfInBounds off v = c1) (rp : Repl l (Cel b c t) (Cel b c1 t) l') {kk : List Thing → Value → Prop}
    (h : kk l' undef) : LoudG Try.prog ops W ⟨dst, .store T x y, ty, pos, after, guard⟩ l a kk := by
  subst hs
  refine ⟨hw, fun w H => ⟨l', undef, setBlk w b (c.setIfInBounds off v), .inr ⟨?_, rfl⟩, H.set rp, h⟩⟩
  unfold execOp
  simp only [hx, hy, Sem.run_bind, run_storeC CT hc (H.blk m) hn, Result.andThen_ok]
  rfl
end
end Go.Proofs.Ytacglcpjbepfnaa

/- A quiet read of one cell. -/
namespace Go.Proofs.Ytacglcpjbepfnaa
open Go.RowKit
set_option linter.unusedSimpArgs false
set_option linter.unusedVariables false
set_option linter.unusedVariables false
section
variable {ops : Array Oper} {rest : List Oper} {a : Act} {w W : World} {l : List Thing}
theorem wpQ_loadCell {T : TypeId} {dst : Option Tmp} {ty : TypeId} {pos : String} {after : Array Edge} {guard : Option (Nat × Bool)} {x : Operand} {b off : Nat} {K : Act → Prop} {H : Heap W l w} (CT : CellTy T) (hw : Region.wanted ⟨dst, .load T x, ty, pos, after, guard⟩ (yielded ops a.tmps) = true) (hx : a.eval x = .pointer (some ⟨b, off, none⟩))
    {v : Value} (hc : ∀ w', Heap W l w' → w'.cell? ⟨b, off, none⟩ = some v)
    (h : wpQuiet Try.prog ops (fun w' => ∃ d, w' = H.any d) K rest (a.put dst v)) : wpQuiet Try.prog ops (fun w' => ∃ d, w' = H.any d) K (⟨dst, .load T x, ty, pos, after, guard⟩ :: rest) a := by
  refine BigFrame.wpQuiet_want hw fun K hK => ⟨v, ?_, hK _ h⟩
  rintro _ ⟨d, rfl⟩
  have hv := hc _ (H.any_heap d)
  simp only [World.cell?, if_true] at hv
  cases hb : (H.any d).heap[b]? with
  | none => rw [hb] at hv; cases hv
  | some o =>
    rw [hb] at hv
    cases o <;> first | (cases hv; done) | skip
    rename_i cs t f
    unfold Oper.quietAt execOp
    simp only [hx, Sem.run_bind, run_loadC CT hb hv]
    exact ⟨rfl, rfl⟩
end
section
variable {W w : World} {l : List Thing}
set_option maxRecDepth 100000
set_option maxHeartbeats 2000000
end
end Go.Proofs.Ytacglcpjbepfnaa

/- countinghouseref04: May, New, Of, Copy. (Printed by gen/ref4a.py.) -/
namespace Go.Proofs.Ytacglcpjbepfnaa
open Go.RowKit
set_option linter.unusedSimpArgs false
set_option linter.unusedVariables false
set_option maxRecDepth 100000
/-- The document's book, in memory. -/
abbrev RBk (p : Nat) (v : Value) (nx : Int) : Thing := Cel p (bkb v nx) 157
theorem run_buildRB (n : Int) (w : World) : (Instr.build 157 #[(1, .int .u64 n)]).run Try.prog w = .ok (.agg (bkb (.slice none 0 0) n)) w := by kernel_rfl
theorem run_buildRB2 (a : Option Addr) (n c : Nat) (x : Int) (w : World) : (Instr.build 157 #[(0, .slice a n c), (1, .int .u64 x)]).run Try.prog w = .ok (.agg (bkb (.slice a n c) x)) w := by kernel_rfl
section
variable {ops : Array Oper} {rest : List Oper} {a : Act} {W w : World} {l : List Thing} {Q : Exit → Act → World → Prop} {K : Act → Prop} {dst : Option Tmp} {ty : TypeId} {pos : String} {after : Array Edge} {guard : Option (Nat × Bool)}
theorem wpl_buildRB {x : Operand} {n : Int} (hw : Region.wanted ⟨dst, .build 157 #[(1, x)], ty, pos, after, guard⟩ (yielded ops a.tmps) = true) (hx : a.eval x = .int .u64 n)
    (h : wpList Try.prog ops Q rest (a.put dst (.agg (bkb (.slice none 0 0) n))) w) : wpList Try.prog ops Q (⟨dst, .build 157 #[(1, x)], ty, pos, after, guard⟩ :: rest) a w := by
  refine wpl_pure hw _ (fun w => ?_) h
  unfold execOp
  simp only [List.map_toArray, List.map_cons, List.map_nil, hx, Sem.run_bind, run_buildRB, Result.andThen_ok, Sem.run_pure]
theorem wpl_buildRB2 {x y : Operand} {ao : Option Addr} {m c : Nat} {n : Int} (hw : Region.wanted ⟨dst, .build 157 #[(0, x), (1, y)], ty, pos, after, guard⟩ (yielded ops a.tmps) = true) (hx : a.eval x = .slice ao m c) (hy : a.eval y = .int .u64 n)
    (h : wpList Try.prog ops Q rest (a.put dst (.agg (bkb (.slice ao m c) n))) w) : wpList Try.prog ops Q (⟨dst, .build 157 #[(0, x), (1, y)], ty, pos, after, guard⟩ :: rest) a w := by
  refine wpl_pure hw _ (fun w => ?_) h
  unfold execOp
  simp only [List.map_toArray, List.map_cons, List.map_nil, hx, hy, Sem.run_bind, run_buildRB2, Result.andThen_ok, Sem.run_pure]
theorem wpQ_buildRB2 {H : Heap W l w} {x y : Operand} {ao : Option Addr} {m c : Nat} {n : Int} (hw : Region.wanted ⟨dst, .build 157 #[(0, x), (1, y)], ty, pos, after, guard⟩ (yielded ops a.tmps) = true) (hx : a.eval x = .slice ao m c) (hy : a.eval y = .int .u64 n)
    (h : wpQuiet Try.prog ops (fun w' => ∃ d, w' = H.any d) K rest (a.put dst (.agg (bkb (.slice ao m c) n)))) : wpQuiet Try.prog ops (fun w' => ∃ d, w' = H.any d) K (⟨dst, .build 157 #[(0, x), (1, y)], ty, pos, after, guard⟩ :: rest) a := by
  refine BigFrame.wpQuiet_want hw fun K hK => ⟨_, ?_, hK _ h⟩
  rintro _ ⟨d, rfl⟩
  unfold Oper.quietAt execOp
  simp only [List.map_toArray, List.map_cons, List.map_nil, hx, hy, Sem.run_bind, run_buildRB2]
  exact ⟨rfl, rfl⟩
end
section
variable {W : World} {loud : List Nat} {K : List Thing → Act → Prop} {base l : List Thing} {a : Act} {lo : List Oper} {ks : List Nat} {k : Nat} {dst : Option Tmp} {ty : TypeId} {pos : String} {after : Array Edge}
/-- append(nil, s...), in a region that draws. -/
theorem wpK_cloneR {t e size bytes : Nat} {z : Value} (T : SlTy Try.prog t e size bytes z) {s x : Operand} (ho : lo[k]? = some ⟨dst, .call { callee := .builtin .append, args := #[s, x], argTypes := #[t, t] }, ty, pos, after, none⟩) (hk : loud.contains k = true)
    {ao : Option Addr} {m c : Nat} {news : List Value} (hs : a.eval s = .slice none 0 0) (hx : a.eval x = .slice ao m c) (R : ∀ w', Heap W l w' → Rd w' ao news)
    (hl : news.length = m * size) (h1 : OneCells news) (h63 : m ≤ maxLen) (hbytes : m * bytes ≤ 140737488355328) (hb : Keeps base l)
    (h : ∀ a' c', wpK Try.prog lo.toArray W loud K ks base (RowT e size (.slice a' m c') m news :: l) (a.put dst (.slice a' m c'))) : wpK Try.prog lo.toArray W loud K (k :: ks) base l a := by
  have fin : ∀ v', (∃ a' c', v' = .slice a' m c') → wpK Try.prog lo.toArray W loud K ks base (RowT e size v' m news :: l) (a.put dst v') := by
    rintro _ ⟨a', c', rfl⟩
    exact h a' c'
  refine wpK_loud ho hk ⟨rfl, fun w H0 => ?_⟩
  have H : Heap W (RowT e size (.slice none 0 0) 0 [] :: l) w := H0.nilRow e size
  have hrd := R w H0
  by_cases hm : m = 0
  · subst hm
    have hn0 : news = [] := List.eq_nil_of_length_eq_zero (by simpa using hl)
    subst hn0
    obtain ⟨i, hi, hz, hsi, hbi⟩ := T.inf
    have hr : (Builtin.append_ #[t, t] ty #[.slice none 0 0, .slice ao 0 c]).run Try.prog w = .ok (.slice none 0 0) w := by
      cases ao <;> simp [Builtin.append_, run_underlying T.und, sizeOf, typeInfo, hi, Builtin.lenOf, Builtin.firstCells, loadCells, loadCellsFrom]
    refine .inl ⟨_, .slice none 0 0, w, .inl ?_, H, base, Keeps.refl _, fun t ht => List.mem_cons_of_mem _ (hb t ht), fin _ ⟨_, _, rfl⟩⟩
    unfold execOp
    simp only [resolve, invoke, builtin, Sem.run_bind, Sem.run_pure, Result.andThen_ok, List.map_toArray, List.map_cons, List.map_nil, hs, hx, hr]
  · obtain ⟨b, o, rfl, _⟩ := hrd.lt (by rw [hl]; have := T.pos; exact Nat.mul_pos (by omega) this)
    have hown : w.ownsRow 0 e size (.slice none 0 0) 0 [] := H.ok _ List.mem_cons_self
    obtain ⟨i, hi, hz, hsz, hbb⟩ := T.inf
    have hnw := hrd.addr
    obtain ⟨v1, w1, hr1, hbl⟩ := run_append_block w T ty 0 (.slice none 0 0) 0 [] hown ⟨b, o, none⟩ m c news hl hnw h1 (by omega) (by rw [Nat.zero_add]; exact hbytes)
    obtain ⟨v', w', hr, h2, h3, h4⟩ := run_append_own (P := Try.prog) w 0 t ty e i z size bytes T.und hi hz hsz hbb T.zc T.pos (.slice none 0 0) 0 [] hown ⟨b, o, none⟩ m c news hl hnw h1 (by omega) (by rw [Nat.zero_add]; exact hbytes) (Nat.zero_le _)
    rw [hr1] at hr
    simp only [Result.ok.injEq] at hr
    obtain ⟨rfl, rfl⟩ := hr
    rw [Nat.zero_add, List.nil_append] at h2
    have H2 : Heap W (RowT e size v1 m news :: l) w1 := H.head h3 h2 (by
      rcases hbl with hbl | hbl
      · exact .inl hbl
      · refine .inr fun j hj => ?_
        have h5 := ownsRow_fp h2 j hj
        have hj' : v1.ownBlock = some j := hj
        rw [hbl] at hj'
        cases hj'
        exact ⟨Nat.le_refl _, h5.2⟩)
    obtain ⟨a', c', e', _, _⟩ := RowT.form0 (H2.ok _ List.mem_cons_self)
    refine .inl ⟨_, v1, w1, .inl ?_, H2, base, Keeps.refl _, fun t ht => List.mem_cons_of_mem _ (hb t ht), fin _ ⟨_, _, e'⟩⟩
    unfold execOp
    simp only [resolve, invoke, builtin, Sem.run_bind, Sem.run_pure, Result.andThen_ok, List.map_toArray, List.map_cons, List.map_nil, hs, hx, hr1]
end
section
variable {W w : World} {l : List Thing}
set_option maxHeartbeats 8000000
theorem rnew4_H (H : Heap W l w) : Calls Try.prog 69 #[] w fun e w' => ∃ p, e = .returned (.pointer (some ⟨p, 0, none⟩)) ∧ Heap W (RBk p (.slice none 0 0) 1 :: OfT (.slice none 0 0) 0 [] :: l) w' := by
  replace H := H.nilRow 83 7
  go_enter Try.func69, Try.ntmps69
  go_wp2_with (first
    | ((with_reducible show wpList _ _ _ (_ :: _) _ _); (with_reducible apply wpl_buildRB); (· rfl); (· rfl); (simp only [Act.put, List.setIfInBounds_toArray, List.set_cons_zero, List.set_cons_succ]))
    | ((with_reducible show wpList _ _ _ (_ :: _) _ _); (with_reducible apply wpl_boxRH); (· rfl); (· rfl); (· exact H); (clear H; intro pb _ H); (simp only [Act.put, List.setIfInBounds_toArray, List.set_cons_zero, List.set_cons_succ]))
    | go_skip)
  go_ret
  exact ⟨_, rfl, H⟩
theorem rmay4_H (o : Ofr) (hk : OfrOk o) : AnsH W l 113 #[.agg (ofrA o)] (.bool (mayO o)) := by
  intro w H
  obtain ⟨k0, k1, k2, k3, k4, k5, k6⟩ := hk
  by_cases h0 : o.ow < 1
  · have e0 := Lib.hid h0
    have d0_0 : decide (o.ow < 1) = true := decide_eq_true h0
    rw [mayO_no (by omega)]
    clear h0
    go_enter Try.func113, Try.ntmps113
    go_wp2_with (first | go_skip | ((with_reducible show wpList _ _ _ (_ :: _) _ _); (with_reducible apply wpl_boxRH); (· rfl); (· rfl); (· exact H); (clear H; intro px _ H); (simp only [Act.put, List.setIfInBounds_toArray, List.set_cons_zero, List.set_cons_succ])) | ((with_reducible refine Ans.callH (by assumption) H ?_); clear H; intro _ H) | ((with_reducible show wpList _ _ _ (_ :: _) _ _); (with_reducible apply wpl_loadCH); (· first | exact cell_u64 | exact cell_party | exact cell_cur | exact cell_i64); (· rfl); (· rfl); (· exact H); (· (repeat (first | (with_reducible exact List.mem_cons_self) | with_reducible apply List.mem_cons_of_mem))); (· with_reducible first | exact ofr_g0 .. | exact ofr_g1 .. | exact ofr_g2 .. | exact ofr_g3 .. | exact ofr_g4 ..); (simp only [Act.put, List.setIfInBounds_toArray, List.set_cons_zero, List.set_cons_succ])) | ((with_reducible show wpList _ _ _ (_ :: _) _ _); (with_reducible apply wpl_loadRH row_rat); (· rfl); (· rfl); (· exact H); (· (repeat (first | (with_reducible exact List.mem_cons_self) | with_reducible apply List.mem_cons_of_mem))); (· (simp only [ofrA_sz, Nat.reduceAdd, Nat.reduceLeDiff, Nat.le_refl]; done)); (· with_reducible exact ofr_rat ..); (simp only [Act.put, List.setIfInBounds_toArray, List.set_cons_zero, List.set_cons_succ])))
    go_ret
    exact ⟨rfl, H.tail⟩
  · skip
    have d0_0 : decide (o.ow < 1) = false := decide_eq_false h0
    by_cases h1 : 16 < o.ow
    · have e1 := Lib.hid h1
      have d1_0 : decide (o.ow > 16) = true := decide_eq_true h1
      have d1_1 : decide (16 < o.ow) = true := decide_eq_true h1
      rw [mayO_no (by omega)]
      clear h0 h1
      go_enter Try.func113, Try.ntmps113
      go_wp2_with (first | go_skip | ((with_reducible show wpList _ _ _ (_ :: _) _ _); (with_reducible apply wpl_boxRH); (· rfl); (· rfl); (· exact H); (clear H; intro px _ H); (simp only [Act.put, List.setIfInBounds_toArray, List.set_cons_zero, List.set_cons_succ])) | ((with_reducible refine Ans.callH (by assumption) H ?_); clear H; intro _ H) | ((with_reducible show wpList _ _ _ (_ :: _) _ _); (with_reducible apply wpl_loadCH); (· first | exact cell_u64 | exact cell_party | exact cell_cur | exact cell_i64); (· rfl); (· rfl); (· exact H); (· (repeat (first | (with_reducible exact List.mem_cons_self) | with_reducible apply List.mem_cons_of_mem))); (· with_reducible first | exact ofr_g0 .. | exact ofr_g1 .. | exact ofr_g2 .. | exact ofr_g3 .. | exact ofr_g4 ..); (simp only [Act.put, List.setIfInBounds_toArray, List.set_cons_zero, List.set_cons_succ])) | ((with_reducible show wpList _ _ _ (_ :: _) _ _); (with_reducible apply wpl_loadRH row_rat); (· rfl); (· rfl); (· exact H); (· (repeat (first | (with_reducible exact List.mem_cons_self) | with_reducible apply List.mem_cons_of_mem))); (· (simp only [ofrA_sz, Nat.reduceAdd, Nat.reduceLeDiff, Nat.le_refl]; done)); (· with_reducible exact ofr_rat ..); (simp only [Act.put, List.setIfInBounds_toArray, List.set_cons_zero, List.set_cons_succ])))
      go_ret
      exact ⟨rfl, H.tail⟩
    · skip
      have d1_0 : decide (o.ow > 16) = false := decide_eq_false h1
      have d1_1 : decide (16 < o.ow) = false := decide_eq_false h1
      by_cases h2 : o.se < 1
      · have e2 := Lib.hid h2
        have d2_0 : decide (o.se < 1) = true := decide_eq_true h2
        rw [mayO_no (by omega)]
        clear h0 h1 h2
        go_enter Try.func113, Try.ntmps113
        go_wp2_with (first | go_skip | ((with_reducible show wpList _ _ _ (_ :: _) _ _); (with_reducible apply wpl_boxRH); (· rfl); (· rfl); (· exact H); (clear H; intro px _ H); (simp only [Act.put, List.setIfInBounds_toArray, List.set_cons_zero, List.set_cons_succ])) | ((with_reducible refine Ans.callH (by assumption) H ?_); clear H; intro _ H) | ((with_reducible show wpList _ _ _ (_ :: _) _ _); (with_reducible apply wpl_loadCH); (· first | exact cell_u64 | exact cell_party | exact cell_cur | exact cell_i64); (· rfl); (· rfl); (· exact H); (· (repeat (first | (with_reducible exact List.mem_cons_self) | with_reducible apply List.mem_cons_of_mem))); (· with_reducible first | exact ofr_g0 .. | exact ofr_g1 .. | exact ofr_g2 .. | exact ofr_g3 .. | exact ofr_g4 ..); (simp only [Act.put, List.setIfInBounds_toArray, List.set_cons_zero, List.set_cons_succ])) | ((with_reducible show wpList _ _ _ (_ :: _) _ _); (with_reducible apply wpl_loadRH row_rat); (· rfl); (· rfl); (· exact H); (· (repeat (first | (with_reducible exact List.mem_cons_self) | with_reducible apply List.mem_cons_of_mem))); (· (simp only [ofrA_sz, Nat.reduceAdd, Nat.reduceLeDiff, Nat.le_refl]; done)); (· with_reducible exact ofr_rat ..); (simp only [Act.put, List.setIfInBounds_toArray, List.set_cons_zero, List.set_cons_succ])))
        go_ret
        exact ⟨rfl, H.tail⟩
      · skip
        have d2_0 : decide (o.se < 1) = false := decide_eq_false h2
        by_cases h3 : 8 < o.se
        · have e3 := Lib.hid h3
          have d3_0 : decide (o.se > 8) = true := decide_eq_true h3
          have d3_1 : decide (8 < o.se) = true := decide_eq_true h3
          rw [mayO_no (by omega)]
          clear h0 h1 h2 h3
          go_enter Try.func113, Try.ntmps113
          go_wp2_with (first | go_skip | ((with_reducible show wpList _ _ _ (_ :: _) _ _); (with_reducible apply wpl_boxRH); (· rfl); (· rfl); (· exact H); (clear H; intro px _ H); (simp only [Act.put, List.setIfInBounds_toArray, List.set_cons_zero, List.set_cons_succ])) | ((with_reducible refine Ans.callH (by assumption) H ?_); clear H; intro _ H) | ((with_reducible show wpList _ _ _ (_ :: _) _ _); (with_reducible apply wpl_loadCH); (· first | exact cell_u64 | exact cell_party | exact cell_cur | exact cell_i64); (· rfl); (· rfl); (· exact H); (· (repeat (first | (with_reducible exact List.mem_cons_self) | with_reducible apply List.mem_cons_of_mem))); (· with_reducible first | exact ofr_g0 .. | exact ofr_g1 .. | exact ofr_g2 .. | exact ofr_g3 .. | exact ofr_g4 ..); (simp only [Act.put, List.setIfInBounds_toArray, List.set_cons_zero, List.set_cons_succ])) | ((with_reducible show wpList _ _ _ (_ :: _) _ _); (with_reducible apply wpl_loadRH row_rat); (· rfl); (· rfl); (· exact H); (· (repeat (first | (with_reducible exact List.mem_cons_self) | with_reducible apply List.mem_cons_of_mem))); (· (simp only [ofrA_sz, Nat.reduceAdd, Nat.reduceLeDiff, Nat.le_refl]; done)); (· with_reducible exact ofr_rat ..); (simp only [Act.put, List.setIfInBounds_toArray, List.set_cons_zero, List.set_cons_succ])))
          go_ret
          exact ⟨rfl, H.tail⟩
        · skip
          have d3_0 : decide (o.se > 8) = false := decide_eq_false h3
          have d3_1 : decide (8 < o.se) = false := decide_eq_false h3
          by_cases h4 : o.bu < 1
          · have e4 := Lib.hid h4
            have d4_0 : decide (o.bu < 1) = true := decide_eq_true h4
            rw [mayO_no (by omega)]
            clear h0 h1 h2 h3 h4
            go_enter Try.func113, Try.ntmps113
            go_wp2_with (first | go_skip | ((with_reducible show wpList _ _ _ (_ :: _) _ _); (with_reducible apply wpl_boxRH); (· rfl); (· rfl); (· exact H); (clear H; intro px _ H); (simp only [Act.put, List.setIfInBounds_toArray, List.set_cons_zero, List.set_cons_succ])) | ((with_reducible refine Ans.callH (by assumption) H ?_); clear H; intro _ H) | ((with_reducible show wpList _ _ _ (_ :: _) _ _); (with_reducible apply wpl_loadCH); (· first | exact cell_u64 | exact cell_party | exact cell_cur | exact cell_i64); (· rfl); (· rfl); (· exact H); (· (repeat (first | (with_reducible exact List.mem_cons_self) | with_reducible apply List.mem_cons_of_mem))); (· with_reducible first | exact ofr_g0 .. | exact ofr_g1 .. | exact ofr_g2 .. | exact ofr_g3 .. | exact ofr_g4 ..); (simp only [Act.put, List.setIfInBounds_toArray, List.set_cons_zero, List.set_cons_succ])) | ((with_reducible show wpList _ _ _ (_ :: _) _ _); (with_reducible apply wpl_loadRH row_rat); (· rfl); (· rfl); (· exact H); (· (repeat (first | (with_reducible exact List.mem_cons_self) | with_reducible apply List.mem_cons_of_mem))); (· (simp only [ofrA_sz, Nat.reduceAdd, Nat.reduceLeDiff, Nat.le_refl]; done)); (· with_reducible exact ofr_rat ..); (simp only [Act.put, List.setIfInBounds_toArray, List.set_cons_zero, List.set_cons_succ])))
            go_ret
            exact ⟨rfl, H.tail⟩
          · skip
            have d4_0 : decide (o.bu < 1) = false := decide_eq_false h4
            by_cases h5 : 8 < o.bu
            · have e5 := Lib.hid h5
              have d5_0 : decide (o.bu > 8) = true := decide_eq_true h5
              have d5_1 : decide (8 < o.bu) = true := decide_eq_true h5
              rw [mayO_no (by omega)]
              clear h0 h1 h2 h3 h4 h5
              go_enter Try.func113, Try.ntmps113
              go_wp2_with (first | go_skip | ((with_reducible show wpList _ _ _ (_ :: _) _ _); (with_reducible apply wpl_boxRH); (· rfl); (· rfl); (· exact H); (clear H; intro px _ H); (simp only [Act.put, List.setIfInBounds_toArray, List.set_cons_zero, List.set_cons_succ])) | ((with_reducible refine Ans.callH (by assumption) H ?_); clear H; intro _ H) | ((with_reducible show wpList _ _ _ (_ :: _) _ _); (with_reducible apply wpl_loadCH); (· first | exact cell_u64 | exact cell_party | exact cell_cur | exact cell_i64); (· rfl); (· rfl); (· exact H); (· (repeat (first | (with_reducible exact List.mem_cons_self) | with_reducible apply List.mem_cons_of_mem))); (· with_reducible first | exact ofr_g0 .. | exact ofr_g1 .. | exact ofr_g2 .. | exact ofr_g3 .. | exact ofr_g4 ..); (simp only [Act.put, List.setIfInBounds_toArray, List.set_cons_zero, List.set_cons_succ])) | ((with_reducible show wpList _ _ _ (_ :: _) _ _); (with_reducible apply wpl_loadRH row_rat); (· rfl); (· rfl); (· exact H); (· (repeat (first | (with_reducible exact List.mem_cons_self) | with_reducible apply List.mem_cons_of_mem))); (· (simp only [ofrA_sz, Nat.reduceAdd, Nat.reduceLeDiff, Nat.le_refl]; done)); (· with_reducible exact ofr_rat ..); (simp only [Act.put, List.setIfInBounds_toArray, List.set_cons_zero, List.set_cons_succ])))
              go_ret
              exact ⟨rfl, H.tail⟩
            · skip
              have d5_0 : decide (o.bu > 8) = false := decide_eq_false h5
              have d5_1 : decide (8 < o.bu) = false := decide_eq_false h5
              by_cases h6 : o.se = o.bu
              · have d6 : (o.se != o.bu) = false := by simp [h6]
                have d6_1 : (o.se == o.bu) = true := by simp [h6]
                rw [mayO_no (by omega)]
                clear h0 h1 h2 h3 h4 h5 h6
                go_enter Try.func113, Try.ntmps113
                go_wp2_with (first | go_skip | ((with_reducible show wpList _ _ _ (_ :: _) _ _); (with_reducible apply wpl_boxRH); (· rfl); (· rfl); (· exact H); (clear H; intro px _ H); (simp only [Act.put, List.setIfInBounds_toArray, List.set_cons_zero, List.set_cons_succ])) | ((with_reducible refine Ans.callH (by assumption) H ?_); clear H; intro _ H) | ((with_reducible show wpList _ _ _ (_ :: _) _ _); (with_reducible apply wpl_loadCH); (· first | exact cell_u64 | exact cell_party | exact cell_cur | exact cell_i64); (· rfl); (· rfl); (· exact H); (· (repeat (first | (with_reducible exact List.mem_cons_self) | with_reducible apply List.mem_cons_of_mem))); (· with_reducible first | exact ofr_g0 .. | exact ofr_g1 .. | exact ofr_g2 .. | exact ofr_g3 .. | exact ofr_g4 ..); (simp only [Act.put, List.setIfInBounds_toArray, List.set_cons_zero, List.set_cons_succ])) | ((with_reducible show wpList _ _ _ (_ :: _) _ _); (with_reducible apply wpl_loadRH row_rat); (· rfl); (· rfl); (· exact H); (· (repeat (first | (with_reducible exact List.mem_cons_self) | with_reducible apply List.mem_cons_of_mem))); (· (simp only [ofrA_sz, Nat.reduceAdd, Nat.reduceLeDiff, Nat.le_refl]; done)); (· with_reducible exact ofr_rat ..); (simp only [Act.put, List.setIfInBounds_toArray, List.set_cons_zero, List.set_cons_succ])))
                go_ret
                exact ⟨rfl, H.tail⟩
              · have d6 : (o.se != o.bu) = true := by simp [h6]
                have d6_1 : (o.se == o.bu) = false := by simp [h6]
                by_cases h7 : 1 ≤ o.le
                · have d7 : decide (o.le ≥ 1) = true := decide_eq_true h7
                  have d7_1 : decide (1 ≤ o.le) = true := decide_eq_true h7
                  by_cases h8 : o.le ≤ 1099511627776
                  · have d8 : decide (o.le ≤ 1099511627776) = true := decide_eq_true h8
                    rw [mayO_rat ⟨by omega, by omega, by omega, h6, h7, h8⟩]
                    have c8 := rmay_ans o.nu o.de ⟨k5.1, k5.2, k6.1, k6.2⟩
                    clear h0 h1 h2 h3 h4 h5 h6 h7 h8
                    go_enter Try.func113, Try.ntmps113
                    go_wp2_with (first | go_skip | ((with_reducible show wpList _ _ _ (_ :: _) _ _); (with_reducible apply wpl_boxRH); (· rfl); (· rfl); (· exact H); (clear H; intro px _ H); (simp only [Act.put, List.setIfInBounds_toArray, List.set_cons_zero, List.set_cons_succ])) | ((with_reducible refine Ans.callH (by assumption) H ?_); clear H; intro _ H) | ((with_reducible show wpList _ _ _ (_ :: _) _ _); (with_reducible apply wpl_loadCH); (· first | exact cell_u64 | exact cell_party | exact cell_cur | exact cell_i64); (· rfl); (· rfl); (· exact H); (· (repeat (first | (with_reducible exact List.mem_cons_self) | with_reducible apply List.mem_cons_of_mem))); (· with_reducible first | exact ofr_g0 .. | exact ofr_g1 .. | exact ofr_g2 .. | exact ofr_g3 .. | exact ofr_g4 ..); (simp only [Act.put, List.setIfInBounds_toArray, List.set_cons_zero, List.set_cons_succ])) | ((with_reducible show wpList _ _ _ (_ :: _) _ _); (with_reducible apply wpl_loadRH row_rat); (· rfl); (· rfl); (· exact H); (· (repeat (first | (with_reducible exact List.mem_cons_self) | with_reducible apply List.mem_cons_of_mem))); (· (simp only [ofrA_sz, Nat.reduceAdd, Nat.reduceLeDiff, Nat.le_refl]; done)); (· with_reducible exact ofr_rat ..); (simp only [Act.put, List.setIfInBounds_toArray, List.set_cons_zero, List.set_cons_succ])))
                    go_ret
                    exact ⟨rfl, H.tail⟩
                  · have d8 : decide (o.le ≤ 1099511627776) = false := decide_eq_false h8
                    rw [mayO_no (by omega)]
                    clear h0 h1 h2 h3 h4 h5 h6 h7 h8
                    go_enter Try.func113, Try.ntmps113
                    go_wp2_with (first | go_skip | ((with_reducible show wpList _ _ _ (_ :: _) _ _); (with_reducible apply wpl_boxRH); (· rfl); (· rfl); (· exact H); (clear H; intro px _ H); (simp only [Act.put, List.setIfInBounds_toArray, List.set_cons_zero, List.set_cons_succ])) | ((with_reducible refine Ans.callH (by assumption) H ?_); clear H; intro _ H) | ((with_reducible show wpList _ _ _ (_ :: _) _ _); (with_reducible apply wpl_loadCH); (· first | exact cell_u64 | exact cell_party | exact cell_cur | exact cell_i64); (· rfl); (· rfl); (· exact H); (· (repeat (first | (with_reducible exact List.mem_cons_self) | with_reducible apply List.mem_cons_of_mem))); (· with_reducible first | exact ofr_g0 .. | exact ofr_g1 .. | exact ofr_g2 .. | exact ofr_g3 .. | exact ofr_g4 ..); (simp only [Act.put, List.setIfInBounds_toArray, List.set_cons_zero, List.set_cons_succ])) | ((with_reducible show wpList _ _ _ (_ :: _) _ _); (with_reducible apply wpl_loadRH row_rat); (· rfl); (· rfl); (· exact H); (· (repeat (first | (with_reducible exact List.mem_cons_self) | with_reducible apply List.mem_cons_of_mem))); (· (simp only [ofrA_sz, Nat.reduceAdd, Nat.reduceLeDiff, Nat.le_refl]; done)); (· with_reducible exact ofr_rat ..); (simp only [Act.put, List.setIfInBounds_toArray, List.set_cons_zero, List.set_cons_succ])))
                    go_ret
                    exact ⟨rfl, H.tail⟩
                · have d7 : decide (o.le ≥ 1) = false := decide_eq_false h7
                  have d7_1 : decide (1 ≤ o.le) = false := decide_eq_false h7
                  rw [mayO_no (by omega)]
                  clear h0 h1 h2 h3 h4 h5 h6 h7
                  go_enter Try.func113, Try.ntmps113
                  go_wp2_with (first | go_skip | ((with_reducible show wpList _ _ _ (_ :: _) _ _); (with_reducible apply wpl_boxRH); (· rfl); (· rfl); (· exact H); (clear H; intro px _ H); (simp only [Act.put, List.setIfInBounds_toArray, List.set_cons_zero, List.set_cons_succ])) | ((with_reducible refine Ans.callH (by assumption) H ?_); clear H; intro _ H) | ((with_reducible show wpList _ _ _ (_ :: _) _ _); (with_reducible apply wpl_loadCH); (· first | exact cell_u64 | exact cell_party | exact cell_cur | exact cell_i64); (· rfl); (· rfl); (· exact H); (· (repeat (first | (with_reducible exact List.mem_cons_self) | with_reducible apply List.mem_cons_of_mem))); (· with_reducible first | exact ofr_g0 .. | exact ofr_g1 .. | exact ofr_g2 .. | exact ofr_g3 .. | exact ofr_g4 ..); (simp only [Act.put, List.setIfInBounds_toArray, List.set_cons_zero, List.set_cons_succ])) | ((with_reducible show wpList _ _ _ (_ :: _) _ _); (with_reducible apply wpl_loadRH row_rat); (· rfl); (· rfl); (· exact H); (· (repeat (first | (with_reducible exact List.mem_cons_self) | with_reducible apply List.mem_cons_of_mem))); (· (simp only [ofrA_sz, Nat.reduceAdd, Nat.reduceLeDiff, Nat.le_refl]; done)); (· with_reducible exact ofr_rat ..); (simp only [Act.put, List.setIfInBounds_toArray, List.set_cons_zero, List.set_cons_succ])))
                  go_ret
                  exact ⟨rfl, H.tail⟩
/-- What Of answers. -/
def ROfPost (W : World) (l : List Thing) (L : List Ofr) (n : Nat) (nx : Int) (e : Ending) (w' : World) : Prop :=
  (ofE L nx = 0 ∧ ∃ p a c, e = .returned (.tuple #[.pointer (some ⟨p, 0, none⟩), .int .i64 0]) ∧ Heap W (RBk p (.slice a n c) nx :: OfT (.slice a n c) n L :: l) w') ∨ (ofE L nx ≠ 0 ∧ e = .returned (.tuple #[.pointer none, .int .i64 (ofE L nx)]) ∧ Heap W l w')
structure ROfR (W : World) (l : List Thing) (L : List Ofr) (nx : Int) (n : Nat) (i : Value) (wr : World) : Prop where
  out : ∃ (k : Nat) (z : Int), k ≤ n ∧ i = .int .i64 (k : Int) ∧ 0 ≤ z ∧ (k = 0 → z = 0) ∧ (0 < k → z < nx ∧ ∃ o, L[k - 1]? = some o ∧ o.sq = z) ∧ okO nx 0 L = okO nx z (L.drop k) ∧ Heap W l wr
theorem okO_small {nx s : Int} {M : List Ofr} (h : nx ≤ s) : okO nx s M = false := by
  cases h2 : okO nx s M with
  | false => rfl
  | true => have := (okO_iff.1 h2).2.2; omega
theorem rof4_H (ea : Option Addr) (n ec : Nat) (L : List Ofr) (nx : Int) (hl : L.length = n) (hn : n ≤ 1000000) (hnx : 0 ≤ nx) (hL : ∀ o ∈ L, OfrOk o) (R : ∀ l' w', (∀ x ∈ l, x ∈ l') → Heap W l' w' → Rd w' ea (ofrL L)) (H : Heap W l w) :
    Calls Try.prog 64 #[.slice ea n ec, .int .u64 nx] w (ROfPost W l L n nx) := by
  have HE := Lib.hid (ofE_ok L nx)
  have HL := Lib.hid hl
  have HK := Lib.hid hL
  have HR := Lib.hid R
  have hl2 := hl
  clear hL R hl
  by_cases hbig : 32 < n
  · have d1 : decide ((n : Int) > 32) = true := decide_eq_true (by omega)
    have d2 : decide (32 < (n : Int)) = true := decide_eq_true (by omega)
    go_enter Try.func64, Try.ntmps64
    go_wp2_with (go_skip)
    go_ret2
    have e1 : ofE L nx = 9 := by rw [HE.out, if_pos (by rw [HL.out]; exact hbig)]
    exact .inr ⟨by rw [e1]; decide, by rw [e1]; rfl, H⟩
  · have d1 : decide ((n : Int) > 32) = false := decide_eq_false (by omega)
    have d2 : decide (32 < (n : Int)) = false := decide_eq_false (by omega)
    have HE2 := Lib.hid (show ofE L nx = if okO nx 0 L = true then 0 else 1 by rw [HE.out, if_neg (by rw [HL.out]; exact hbig)])
    have hlen : (ofrL L).length = n * 7 := by rw [ofrL_len, HL.out]
    have hn1 : 0 + n ≤ maxLen := by unfold maxLen; omega
    have hn2 : (0 + n) * 40 ≤ 140737488355328 := by omega
    clear hbig hl2 HE
    go_enter Try.func64, Try.ntmps64
    go_wp2_with (go_skip)
    have H0 := H
    clear H
    go_loopw [6] (fun i wr => ROfR W l L nx n i wr) (fun i _ => n - (intOf i).toNat)
    case atStart => exact ⟨0, 0, Nat.zero_le _, rfl, Int.le_refl _, fun _ => rfl, fun h => absurd h (by omega), rfl, H0⟩
    case round =>
      obtain ⟨k, z, hk, rfl, hz0, hz1, hz2, hz, H⟩ := hrel.out
      clear H0 hrel
      by_cases hlt : k < n
      · have hkL : k < L.length := by rw [HL.out]; exact hlt
        have hrow := ofrL_get L k hkL
        have hlen1 : k * 7 + 7 ≤ (ofrL L).length := by rw [ofrL_len]; omega
        have hok := HK.out L[k] (List.getElem_mem hkL)
        have hgk : L[k]? = some L[k] := List.getElem?_eq_getElem hkL
        rw [List.drop_eq_getElem_cons hkL, okO] at hz
        generalize L[k] = x at *
        have M := fun l' => rmay4_H (W := W) (l := l') x hok
        obtain ⟨ba, oa, rfl, _⟩ := (HR.out _ _ (fun _ h => h) H).lt (by omega)
        have hx0 := hok.1.1
        have HR2 := Lib.hid (fun w' (H' : Heap W l w') => HR.out l w' (fun _ h => h) H')
        have HS := Lib.hid (fun w' (H' : Heap W l w') => rd_ofr (HR2.out w' H') hgk (j := 0) rfl)
        have HGK := Lib.hid (And.intro hgk hkL)
        clear hkL hgk hok
        cases hb : mayO x with
        | false =>
          rw [hb] at M
          have HZ := Lib.hid (show okO nx 0 L = false by rw [hz, hb]; rfl)
          clear hz hz0 hz1 hz2 hx0 hb
          go_wp2_with (go_skip)
          refine wp_region_H H (by kernel_rfl) (by kernel_rfl) ?_
          repeat (first | go_big_quiet_skip | (first | ((with_reducible apply wpQ_loadRdR row_ofr); (· rfl); (· rfl); (· exact HR2.out); (· first | rfl | exact (Nat.add_zero _).symm); (· exact hlen1); (· decide); (· exact hrow); (simp only [Act.put, List.setIfInBounds_toArray, List.set_cons_zero, List.set_cons_succ])) | ((with_reducible apply wpQ_loadCell cell_u64); (· rfl); (· rfl); (· exact HS.out); (simp only [Act.put, List.setIfInBounds_toArray, List.set_cons_zero, List.set_cons_succ]))) | go_big_quiet_step (((with_reducible exact AnsH.quiet (M _)))))
          refine wpQuiet_nil ?_
          clear H
          intro _ H
          go_wp2_with (go_skip)
          go_ret2
          have e1 : ofE L nx = 1 := by rw [HE2.out, HZ.out]; rfl
          exact .inr ⟨by rw [e1]; decide, by rw [e1]; rfl, H⟩
        | true =>
          rw [hb] at M
          by_cases hs0 : x.sq = 0
          · have d3 : (x.sq == 0) = true := by simp [hs0]
            have HZ := Lib.hid (show okO nx 0 L = false by rw [hz, hb, decide_eq_false (by omega)]; rfl)
            clear hz hz0 hz1 hz2 hx0 hb hs0
            go_wp2_with (go_skip)
            refine wp_region_H H (by kernel_rfl) (by kernel_rfl) ?_
            repeat (first | go_big_quiet_skip | (first | ((with_reducible apply wpQ_loadRdR row_ofr); (· rfl); (· rfl); (· exact HR2.out); (· first | rfl | exact (Nat.add_zero _).symm); (· exact hlen1); (· decide); (· exact hrow); (simp only [Act.put, List.setIfInBounds_toArray, List.set_cons_zero, List.set_cons_succ])) | ((with_reducible apply wpQ_loadCell cell_u64); (· rfl); (· rfl); (· exact HS.out); (simp only [Act.put, List.setIfInBounds_toArray, List.set_cons_zero, List.set_cons_succ]))) | go_big_quiet_step (((with_reducible exact AnsH.quiet (M _)))))
            refine wpQuiet_nil ?_
            clear H
            intro _ H
            go_wp2_with (go_skip)
            go_ret2
            have e1 : ofE L nx = 1 := by rw [HE2.out, HZ.out]; rfl
            exact .inr ⟨by rw [e1]; decide, by rw [e1]; rfl, H⟩
          · have d3 : (x.sq == 0) = false := by simp [hs0]
            by_cases hk0 : k = 0
            · have d4 : decide ((k : Int) > 0) = false := decide_eq_false (by omega)
              have d5 : decide (0 < (k : Int)) = false := decide_eq_false (by omega)
              have d8 : decide (0 < k) = false := decide_eq_false (by omega)
              by_cases hs2 : nx ≤ x.sq
              · have d6 : decide (x.sq ≥ nx) = true := decide_eq_true hs2
                have d7 : decide (nx ≤ x.sq) = true := decide_eq_true hs2
                have HZ := Lib.hid (show okO nx 0 L = false by rw [hz, okO_small hs2]; simp)
                clear hz hz0 hz1 hz2 hx0 hb hs0 hs2 hk0
                go_wp2_with (go_skip)
                refine wp_region_H H (by kernel_rfl) (by kernel_rfl) ?_
                repeat (first | go_big_quiet_skip | (first | ((with_reducible apply wpQ_loadRdR row_ofr); (· rfl); (· rfl); (· exact HR2.out); (· first | rfl | exact (Nat.add_zero _).symm); (· exact hlen1); (· decide); (· exact hrow); (simp only [Act.put, List.setIfInBounds_toArray, List.set_cons_zero, List.set_cons_succ])) | ((with_reducible apply wpQ_loadCell cell_u64); (· rfl); (· rfl); (· exact HS.out); (simp only [Act.put, List.setIfInBounds_toArray, List.set_cons_zero, List.set_cons_succ]))) | go_big_quiet_step (((with_reducible exact AnsH.quiet (M _)))))
                refine wpQuiet_nil ?_
                clear H
                intro _ H
                go_wp2_with (go_skip)
                go_ret2
                have e1 : ofE L nx = 1 := by rw [HE2.out, HZ.out]; rfl
                exact .inr ⟨by rw [e1]; decide, by rw [e1]; rfl, H⟩
              · have d6 : decide (x.sq ≥ nx) = false := decide_eq_false hs2
                have d7 : decide (nx ≤ x.sq) = false := decide_eq_false hs2
                have HZ := Lib.hid (show 0 ≤ x.sq ∧ x.sq < nx ∧ okO nx 0 L = okO nx x.sq (L.drop (k + 1)) from ⟨hx0, by omega, by rw [hz, hb, decide_eq_true (by have := hz1 hk0; omega)]; simp⟩)
                clear hz hz0 hz1 hz2 hx0 hb hs0 hs2 hk0
                go_wp2_with (go_skip)
                refine wp_region_H H (by kernel_rfl) (by kernel_rfl) ?_
                repeat (first | go_big_quiet_skip | (first | ((with_reducible apply wpQ_loadRdR row_ofr); (· rfl); (· rfl); (· exact HR2.out); (· first | rfl | exact (Nat.add_zero _).symm); (· exact hlen1); (· decide); (· exact hrow); (simp only [Act.put, List.setIfInBounds_toArray, List.set_cons_zero, List.set_cons_succ])) | ((with_reducible apply wpQ_loadCell cell_u64); (· rfl); (· rfl); (· exact HS.out); (simp only [Act.put, List.setIfInBounds_toArray, List.set_cons_zero, List.set_cons_succ]))) | go_big_quiet_step (((with_reducible exact AnsH.quiet (M _)))))
                refine wpQuiet_nil ?_
                clear H
                intro _ H
                go_wp2_with (go_skip)
                refine ⟨⟨k + 1, x.sq, by omega, by go_num, HZ.out.1, (fun h => absurd h (by omega)), (fun _ => ⟨HZ.out.2.1, x, HGK.out.1, rfl⟩), HZ.out.2.2, H⟩, ?measure⟩
                case measure => simp [intOf]; omega
            · have d4 : decide ((k : Int) > 0) = true := decide_eq_true (by omega)
              have d5 : decide (0 < (k : Int)) = true := decide_eq_true (by omega)
              have d8 : decide (0 < k) = true := decide_eq_true (by omega)
              obtain ⟨k1, rfl⟩ : ∃ k1, k = k1 + 1 := ⟨k - 1, by omega⟩
              obtain ⟨hzx, y, hy, rfl⟩ := hz2 (by omega)
              rw [Nat.add_sub_cancel] at hy
              have hsub : wrap64 (((k1 + 1 : Nat) : Int) - 1) = (k1 : Int) := by unfold wrap64; omega
              have HP := Lib.hid (fun w' (H' : Heap W l w') => rd_ofr (HR2.out w' H') hy (j := 0) rfl)
              clear hy
              have hz2 := hzx
              by_cases hs1 : x.sq ≤ y.sq
              · have d9 : decide (x.sq ≤ y.sq) = true := decide_eq_true hs1
                have HZ := Lib.hid (show okO nx 0 L = false by rw [hz, hb, decide_eq_false (by omega)]; rfl)
                clear hz hz0 hz1 hz2 hzx hx0 hb hs0 hs1
                go_wp2_with (go_skip)
                refine wp_region_H H (by kernel_rfl) (by kernel_rfl) ?_
                repeat (first | go_big_quiet_skip | (first | ((with_reducible apply wpQ_loadRdR row_ofr); (· rfl); (· rfl); (· exact HR2.out); (· first | rfl | exact (Nat.add_zero _).symm); (· exact hlen1); (· decide); (· exact hrow); (simp only [Act.put, List.setIfInBounds_toArray, List.set_cons_zero, List.set_cons_succ])) | ((with_reducible apply wpQ_loadCell cell_u64); (· rfl); (· rfl); (· exact HS.out); (simp only [Act.put, List.setIfInBounds_toArray, List.set_cons_zero, List.set_cons_succ])) | ((with_reducible apply wpQ_loadCell cell_u64); (· rfl); (· rfl); (· exact HP.out); (simp only [Act.put, List.setIfInBounds_toArray, List.set_cons_zero, List.set_cons_succ]))) | go_big_quiet_step (((with_reducible exact AnsH.quiet (M _)))))
                refine wpQuiet_nil ?_
                clear H
                intro _ H
                go_wp2_with (go_skip)
                go_ret2
                have e1 : ofE L nx = 1 := by rw [HE2.out, HZ.out]; rfl
                exact .inr ⟨by rw [e1]; decide, by rw [e1]; rfl, H⟩
              · have d9 : decide (x.sq ≤ y.sq) = false := decide_eq_false hs1
                clear hzx
                by_cases hs2 : nx ≤ x.sq
                · have d6 : decide (x.sq ≥ nx) = true := decide_eq_true hs2
                  have d7 : decide (nx ≤ x.sq) = true := decide_eq_true hs2
                  have HZ := Lib.hid (show okO nx 0 L = false by rw [hz, okO_small hs2]; simp)
                  clear hz hz0 hz1 hz2 hx0 hb hs0 hs2 hs1
                  go_wp2_with (go_skip)
                  refine wp_region_H H (by kernel_rfl) (by kernel_rfl) ?_
                  repeat (first | go_big_quiet_skip | (first | ((with_reducible apply wpQ_loadRdR row_ofr); (· rfl); (· rfl); (· exact HR2.out); (· first | rfl | exact (Nat.add_zero _).symm); (· exact hlen1); (· decide); (· exact hrow); (simp only [Act.put, List.setIfInBounds_toArray, List.set_cons_zero, List.set_cons_succ])) | ((with_reducible apply wpQ_loadCell cell_u64); (· rfl); (· rfl); (· exact HS.out); (simp only [Act.put, List.setIfInBounds_toArray, List.set_cons_zero, List.set_cons_succ])) | ((with_reducible apply wpQ_loadCell cell_u64); (· rfl); (· rfl); (· exact HP.out); (simp only [Act.put, List.setIfInBounds_toArray, List.set_cons_zero, List.set_cons_succ]))) | go_big_quiet_step (((with_reducible exact AnsH.quiet (M _)))))
                  refine wpQuiet_nil ?_
                  clear H
                  intro _ H
                  go_wp2_with (go_skip)
                  go_ret2
                  have e1 : ofE L nx = 1 := by rw [HE2.out, HZ.out]; rfl
                  exact .inr ⟨by rw [e1]; decide, by rw [e1]; rfl, H⟩
                · have d6 : decide (x.sq ≥ nx) = false := decide_eq_false hs2
                  have d7 : decide (nx ≤ x.sq) = false := decide_eq_false hs2
                  have HZ := Lib.hid (show 0 ≤ x.sq ∧ x.sq < nx ∧ okO nx 0 L = okO nx x.sq (L.drop ((k1 + 1) + 1)) from ⟨hx0, by omega, by rw [hz, hb, decide_eq_true (by omega)]; simp⟩)
                  clear hz hz0 hz1 hz2 hx0 hb hs0 hs2 hs1
                  go_wp2_with (go_skip)
                  refine wp_region_H H (by kernel_rfl) (by kernel_rfl) ?_
                  repeat (first | go_big_quiet_skip | (first | ((with_reducible apply wpQ_loadRdR row_ofr); (· rfl); (· rfl); (· exact HR2.out); (· first | rfl | exact (Nat.add_zero _).symm); (· exact hlen1); (· decide); (· exact hrow); (simp only [Act.put, List.setIfInBounds_toArray, List.set_cons_zero, List.set_cons_succ])) | ((with_reducible apply wpQ_loadCell cell_u64); (· rfl); (· rfl); (· exact HS.out); (simp only [Act.put, List.setIfInBounds_toArray, List.set_cons_zero, List.set_cons_succ])) | ((with_reducible apply wpQ_loadCell cell_u64); (· rfl); (· rfl); (· exact HP.out); (simp only [Act.put, List.setIfInBounds_toArray, List.set_cons_zero, List.set_cons_succ]))) | go_big_quiet_step (((with_reducible exact AnsH.quiet (M _)))))
                  refine wpQuiet_nil ?_
                  clear H
                  intro _ H
                  go_wp2_with (go_skip)
                  refine ⟨⟨(k1 + 1) + 1, x.sq, by omega, by go_num, HZ.out.1, (fun h => absurd h (by omega)), (fun _ => ⟨HZ.out.2.1, x, HGK.out.1, rfl⟩), HZ.out.2.2, H⟩, ?measure⟩
                  case measure => simp [intOf]; omega
      · obtain rfl : k = n := by omega
        rw [List.drop_of_length_le (by rw [HL.out]; exact Nat.le_refl _), okO] at hz
        by_cases hs : nx = 0
        · have d3 : (nx == 0) = true := by simp [hs]
          have HZ := Lib.hid (show okO nx 0 L = false by rw [hz, decide_eq_false (by omega)])
          clear hz hs hz0 hz1 hz2
          go_wp2_with (go_skip)
          go_ret2
          have e1 : ofE L nx = 1 := by rw [HE2.out, HZ.out]; rfl
          exact .inr ⟨by rw [e1]; decide, by rw [e1]; rfl, H⟩
        · have d3 : (nx == 0) = false := by simp [hs]
          have HZ := Lib.hid (show okO nx 0 L = true by
            rw [hz, decide_eq_true]
            by_cases hk0 : k = 0
            · have := hz1 hk0; omega
            · exact (hz2 (by omega)).1)
          clear hz hs hz0 hz1 hz2
          go_wp2_with (first
            | ((with_reducible show wpList _ _ _ (_ :: _) _ _); (with_reducible apply wpl_appendA slO); (· rfl); (· rfl); (· rfl); (· rfl); (· exact H.nilRow 83 7); (· exact HR.out _ _ (fun x hx => List.mem_cons_of_mem _ hx) (H.nilRow 83 7)); (· exact hlen); (· exact ofrL_ones L); (· exact hn1); (· exact hn2); (clear H; intro v2 w2 _ H; rw [Nat.zero_add, List.nil_append] at H; obtain ⟨a2, c2, rfl, _, _⟩ := RowT.form0 (H.ok _ List.mem_cons_self)); (simp only [Act.put, List.setIfInBounds_toArray, List.set_cons_zero, List.set_cons_succ]))
            | ((with_reducible show wpList _ _ _ (_ :: _) _ _); (with_reducible apply wpl_buildRB2); (· rfl); (· rfl); (· rfl); (simp only [Act.put, List.setIfInBounds_toArray, List.set_cons_zero, List.set_cons_succ]))
            | ((with_reducible show wpList _ _ _ (_ :: _) _ _); (with_reducible apply wpl_boxRH); (· rfl); (· rfl); (· exact H); (clear H; intro pb _ H); (simp only [Act.put, List.setIfInBounds_toArray, List.set_cons_zero, List.set_cons_succ]))
            | go_skip)
          go_ret2
          exact .inl ⟨by rw [HE2.out, HZ.out]; rfl, _, _, _, rfl, H⟩
theorem rcopy4_H {p n : Nat} {a : Option Addr} {c : Nat} {nx : Int} {L : List Ofr} (m1 : RBk p (.slice a n c) nx ∈ l) (m2 : OfT (.slice a n c) n L ∈ l) (hl : L.length = n) (hn : n ≤ 1000000) (H : Heap W l w) :
    Calls Try.prog 70 #[.pointer (some ⟨p, 0, none⟩)] w fun e w' => ∃ q a' c', e = .returned (.pointer (some ⟨q, 0, none⟩)) ∧ Heap W (RBk q (.slice a' n c') nx :: OfT (.slice a' n c') n L :: l) w' := by
  have hlen : (ofrL L).length = n * 7 := by rw [ofrL_len, hl]
  have z1 : n ≤ maxLen := by unfold maxLen; omega
  have z2 : n * 40 ≤ 140737488355328 := by omega
  clear hl
  go_enter Try.func70, Try.ntmps70
  go_wp2_with (go_skip)
  refine wp_region_K0 [4, 10] [0, 1, 2, 3, 5, 6, 7, 8, 4, 9, 10, 11] H (by kernel_rfl) (by kernel_rfl) ?_
  iterate 8 (apply wpK_step; (· rfl); (· rfl); (· rfl); (· exact Nat.le_of_ble_eq_true rfl); (· intro l0 hs0 w0 H0; (first | go_big_quiet_skip | ((with_reducible apply wpQ_loadCH); (· first | exact cell_ofrs | exact cell_u64); (· rfl); (· rfl); (· exact hs0 _ m1); (· with_reducible first | exact bkb_g0 .. | exact bkb_g1 ..); (simp only [Act.put, List.setIfInBounds_toArray, List.set_cons_zero, List.set_cons_succ])) | go_big_quiet_step (fail)); (refine wpQuiet_nil ?_); (simp only [Array.getD_eq_getD_getElem?, List.getElem?_toArray, List.getElem?_cons_succ, List.getElem?_cons_zero, Option.getD_some]; rfl)); (simp only [Act.put, List.setIfInBounds_toArray, List.set_cons_zero, List.set_cons_succ]))
  refine wpK_cloneR slO rfl rfl (rfl : _ = Value.slice none 0 0) (rfl : _ = Value.slice a n c) (fun w' h => h.rowRd m2) hlen (ofrL_ones _) z1 z2 (Keeps.refl _) ?_
  intro a1 c1
  (simp only [Act.put, List.setIfInBounds_toArray, List.set_cons_zero, List.set_cons_succ])
  (apply wpK_step; (· rfl); (· rfl); (· rfl); (· exact Nat.le_of_ble_eq_true rfl); (· intro l0 hs0 w0 H0; (first | go_big_quiet_skip | ((with_reducible apply wpQ_buildRB2); (· rfl); (· rfl); (· rfl); (simp only [Act.put, List.setIfInBounds_toArray, List.set_cons_zero, List.set_cons_succ])) | go_big_quiet_step (fail)); (refine wpQuiet_nil ?_); (simp only [Array.getD_eq_getD_getElem?, List.getElem?_toArray, List.getElem?_cons_succ, List.getElem?_cons_zero, Option.getD_some]; rfl)); (simp only [Act.put, List.setIfInBounds_toArray, List.set_cons_zero, List.set_cons_succ]))
  ((with_reducible apply wpK_boxR); (· rfl); (· rfl); (· rfl); (· rfl); (· exact fun t ht => List.mem_cons_of_mem _ ht); (intro q); (simp only [Act.put, List.setIfInBounds_toArray, List.set_cons_zero, List.set_cons_succ]))
  (apply wpK_step; (· rfl); (· rfl); (· rfl); (· exact Nat.le_of_ble_eq_true rfl); (· intro l0 hs0 w0 H0; (first | go_big_quiet_skip | fail | go_big_quiet_step (fail)); (refine wpQuiet_nil ?_); (simp only [Array.getD_eq_getD_getElem?, List.getElem?_toArray, List.getElem?_cons_succ, List.getElem?_cons_zero, Option.getD_some]; rfl)); (simp only [Act.put, List.setIfInBounds_toArray, List.set_cons_zero, List.set_cons_succ]))
  (refine wpK_nil ?_; clear H; intro _ H)
  go_wp2_with (go_skip)
  go_ret
  exact ⟨q, a1, c1, rfl, H⟩
end
end Go.Proofs.Ytacglcpjbepfnaa

/- A region that draws, with soft and hard loud operations (HeapSoft), where two soft ones may come in either order. -/
namespace Go.Proofs.Ytacglcpjbepfnaa
open Go.RowKit
set_option linter.unusedVariables false
section
variable {P : Program} {ops : Array Oper} {W : World} {G E : List Thing → Prop} {loud hard : List Nat}
def wpP (P : Program) (ops : Array Oper) (W : World) (G E : List Thing → Prop) (loud hard : List Nat) (K : List Thing → Act → Prop) : List (Nat × Option Nat) → List Thing → Act → Prop
  | [], l, a => K l a
  | (k, none) :: ks, l, a => ∃ o, ops[k]? = some o ∧ if loud.contains k then LoudG P ops W o l a fun l' u => G l' ∧ (hard.contains k = false → E l → E l') ∧ wpP P ops W G E loud hard K ks l' (a.put o.dst u)
      else ∃ v, FirmF P .any ops W G E loud hard k l o v a ∧ wpP P ops W G E loud hard K ks l (a.put o.dst v)
  | (i, some j) :: ks, l, a => loud.contains i = true ∧ loud.contains j = true ∧ ∃ oi oj, ops[i]? = some oi ∧ ops[j]? = some oj ∧
      (LoudG P ops W oi l a fun l1 u => (G l1 ∧ (E l → E l1)) ∧ LoudG P ops W oj l1 (a.put oi.dst u) fun l2 u2 => (G l2 ∧ (E l1 → E l2)) ∧ wpP P ops W G E loud hard K ks l2 ((a.put oi.dst u).put oj.dst u2)) ∧
      (LoudG P ops W oj l a fun l1 u => (G l1 ∧ (E l → E l1)) ∧ LoudG P ops W oi l1 (a.put oj.dst u) fun l2 u2 => (G l2 ∧ (E l1 → E l2)) ∧ wpP P ops W G E loud hard K ks l2 ((a.put oj.dst u).put oi.dst u2))
theorem WholeF.lexP {K : List Thing → Act → Prop} (hsel : Region.noSelect ops = true) :
    ∀ (ks : List (Nat × Option Nat)) (l : List Thing) (listed : Array Bool) (a : Act), Region.lexM .any ops loud ks listed = true → wpP P ops W G E loud hard K ks l a → WholeF P .any ops W G E loud hard K (lenM ks) l listed a := by
  intro ks
  induction ks with
  | nil => intro l listed a hB h; exact ⟨by simpa [Region.lexM] using hB, h⟩
  | cons k ks ih =>
    intro l listed a hB h
    obtain ⟨i, j⟩ := k
    cases j with
    | none =>
      obtain ⟨o, h0, h⟩ := h
      rw [Region.lexM] at hB
      simp only [Bool.and_eq_true] at hB
      obtain ⟨hB, hB'⟩ := hB
      by_cases hk : loud.contains i = true
      · rw [if_pos hk] at h hB
        have hr : Region.ready .any ops listed = [i] := by simpa using hB
        refine ⟨by rw [hr]; simp, fun i' hi => ?_⟩
        rw [hr] at hi
        obtain rfl : i' = i := by simpa using hi
        exact ⟨o, h0, .inr ⟨hk, h.mono fun l' u ⟨hg, hs, h⟩ => ⟨hg, hs, ih _ _ _ hB' h⟩⟩⟩
      · rw [if_neg hk] at h hB
        simp only [Bool.and_eq_true] at hB
        obtain ⟨v, hy, h⟩ := h
        exact WholeF.first h0 (Region.noSelect_spec hsel) (lenM ks) l listed a (Region.free_spec h0 hB.2) (by simpa using hB.1) hy (ih _ _ _ hB' h)
    | some j =>
      obtain ⟨li, lj, oi, oj, hi0, hj0, h1, h2⟩ := h
      rw [Region.lexM] at hB
      simp only [Bool.and_eq_true, beq_iff_eq, bne_iff_ne, ne_eq] at hB
      obtain ⟨⟨⟨⟨r0, r1⟩, r2⟩, hne⟩, hB'⟩ := hB
      refine ⟨by rw [r0]; simp, fun k hk => ?_⟩
      rw [r0] at hk
      simp only [List.mem_cons, List.not_mem_nil, or_false] at hk
      rcases hk with rfl | rfl
      · refine ⟨oi, hi0, .inr ⟨li, h1.mono fun l1 u ⟨hg, h⟩ => ⟨hg.1, fun _ => hg.2, ?_⟩⟩⟩
        refine ⟨by rw [r1]; simp, fun k2 hk2 => ?_⟩
        rw [r1] at hk2
        obtain rfl : k2 = j := by simpa using hk2
        exact ⟨oj, hj0, .inr ⟨lj, h.mono fun l2 u2 ⟨hg, h⟩ => ⟨hg.1, fun _ => hg.2, ih _ _ _ hB' h⟩⟩⟩
      · refine ⟨oj, hj0, .inr ⟨lj, h2.mono fun l1 u ⟨hg, h⟩ => ⟨hg.1, fun _ => hg.2, ?_⟩⟩⟩
        refine ⟨by rw [r2]; simp, fun k2 hk2 => ?_⟩
        rw [r2] at hk2
        obtain rfl : k2 = i := by simpa using hk2
        refine ⟨oi, hi0, .inr ⟨li, h.mono fun l2 u2 ⟨hg, h⟩ => ⟨hg.1, fun _ => hg.2, ?_⟩⟩⟩
        rw [Array.setIfInBounds_comm _ _ (fun e => hne e.symm)]
        exact ih _ _ _ hB' h
theorem wp_region_P {id : Nat} {Q : Exit → Act → World → Prop} {a : Act} {w : World} {l : List Thing} {lo : List Oper} (loud hard : List Nat) (ord : List (Nat × Option Nat)) (G E : List Thing → Prop) (H : Heap W l w) (hm : P.follows .mixedOrders = true) (hB : Region.lexMB lo.toArray loud ord = true)
    (h : wpP P lo.toArray W G E loud hard (fun l' a' => ∀ w', Heap W l' w' → Q .normal a' w') ord l a) : (Code.region id lo.toArray true).wp P Q a w := by
  simp only [Region.lexMB, Bool.and_eq_true, beq_iff_eq] at hB
  refine wp_region_any hm ?_
  have := WholeF.lexP hB.1.1 ord l _ a hB.1.2 h
  have h2 := WholeF.any (Q := Q) (fun l a w H h => h w H) (lenM ord) l _ a _ H.drew this
  rw [hB.2] at h2
  exact h2
theorem wpP_nil {K : List Thing → Act → Prop} {l : List Thing} {a : Act} (h : K l a) : wpP P ops W G E loud hard K [] l a := h
theorem wpP_step {lo : List Oper} {K : List Thing → Act → Prop} {o : Oper} {k : Nat} {ks : List (Nat × Option Nat)} {l : List Thing} {a : Act} {s : Nat} {v : Value} (ho : lo[k]? = some o) (hk : loud.contains k = false) (hd : o.dst = some s) (hlt : s < a.tmps.size) (hG : G l)
    (h1 : ∀ l0, G l0 → ∀ (w0 : World) (H0 : Heap W l0 w0), wpQuiet P lo.toArray (fun w' => ∃ d, w' = H0.any d) (fun a' => a'.tmps.getD s undef = v) [o] a) (h2 : wpP P lo.toArray W G E loud hard K ks l (a.put o.dst v)) : wpP P lo.toArray W G E loud hard K ((k, none) :: ks) l a := by
  refine ⟨o, by simpa using ho, ?_⟩
  rw [if_neg (by rw [hk]; exact Bool.false_ne_true)]
  exact ⟨v, .inl ⟨hG, yields_of hd hlt h1⟩, h2⟩
theorem wpP_early {lo : List Oper} {K : List Thing → Act → Prop} {o : Oper} {k : Nat} {ks : List (Nat × Option Nat)} {l : List Thing} {a : Act} {s : Nat} {v : Value} (ho : lo[k]? = some o) (hk : loud.contains k = false) (he : Region.early .any lo.toArray hard k = true) (hd : o.dst = some s) (hlt : s < a.tmps.size) (hE : E l)
    (h1 : ∀ l0, E l0 → ∀ (w0 : World) (H0 : Heap W l0 w0), wpQuiet P lo.toArray (fun w' => ∃ d, w' = H0.any d) (fun a' => a'.tmps.getD s undef = v) [o] a) (h2 : wpP P lo.toArray W G E loud hard K ks l (a.put o.dst v)) : wpP P lo.toArray W G E loud hard K ((k, none) :: ks) l a := by
  refine ⟨o, by simpa using ho, ?_⟩
  rw [if_neg (by rw [hk]; exact Bool.false_ne_true)]
  exact ⟨v, .inr ⟨he, hE, yields_of hd hlt h1⟩, h2⟩
theorem wpP_loud {lo : List Oper} {K : List Thing → Act → Prop} {o : Oper} {k : Nat} {ks : List (Nat × Option Nat)} {l : List Thing} {a : Act} (ho : lo[k]? = some o) (hk : loud.contains k = true) (h : LoudG P lo.toArray W o l a fun l' u => G l' ∧ (hard.contains k = false → E l → E l') ∧ wpP P lo.toArray W G E loud hard K ks l' (a.put o.dst u)) : wpP P lo.toArray W G E loud hard K ((k, none) :: ks) l a := by
  refine ⟨o, by simpa using ho, ?_⟩
  rw [if_pos hk]
  exact h
end
section
variable {W : World} {G E : List Thing → Prop} {loud hard : List Nat} {K : List Thing → Act → Prop} {l r : List Thing} {a : Act} {lo : List Oper} {ks : List (Nat × Option Nat)} {k : Nat} {dst : Option Tmp} {ty : TypeId} {pos : String} {after : Array Edge}
/-- append(nil, s...) and a slice literal of one row, in either order. -/
theorem wpP_cloneBs {t e size bytes : Nat} {z : Value} (T : SlTy Try.prog t e size bytes z) {s x y : Operand} {t2 e2 : TypeId} {cr zs : Array Value} {k2 : Nat} {d1 d2 : Nat} {ty2 : TypeId} {pos2 : String} {after2 : Array Edge}
    (ho : lo[k]? = some ⟨some d1, .call { callee := .builtin .append, args := #[s, x], argTypes := #[t, t] }, ty, pos, after, none⟩) (ho2 : lo[k2]? = some ⟨some d2, .buildSlice t2 1 #[(0, y)], ty2, pos2, after2, none⟩) (hk : loud.contains k = true) (hk2 : loud.contains k2 = true)
    {ao : Option Addr} {m c : Nat} {news : List Value} (hs : a.eval s = .slice none 0 0) (hx : a.eval x = .slice ao m c) (hs2 : ∀ v, (a.put (some d2) v).eval s = .slice none 0 0) (hx2 : ∀ v, (a.put (some d2) v).eval x = .slice ao m c) (hy : a.eval y = .agg cr) (hy2 : ∀ v, (a.put (some d1) v).eval y = .agg cr)
    (R : ∀ l' w', (∀ x ∈ l, x ∈ l') → Heap W l' w' → Rd w' ao news) (hl : news.length = m * size) (h1 : OneCells news) (h63 : m ≤ maxLen) (hbytes : m * bytes ≤ 140737488355328)
    (hT : Try.prog.underlying t2 = some (.slice e2) ∧ (Try.prog.info? e2).map (fun i => (i.size, i.zero.map Value.cells)) = some (zs.size, some zs) ∧ 0 < zs.size ∧ zs.size ≤ 65536) (hv : cr.size = zs.size) (hd : d1 ≠ d2)
    (hGE : ∀ l', (∀ x ∈ l, x ∈ l') → G l' ∧ E l')
    (h : ∀ p a' c', wpP Try.prog lo.toArray W G E loud hard K ks (Cel p cr e2 :: RowT e size (.slice a' m c') m news :: l) ((a.put (some d1) (.slice a' m c')).put (some d2) (.slice (some ⟨p, 0, none⟩) 1 1))) : wpP Try.prog lo.toArray W G E loud hard K ((k, some k2) :: ks) l a := by
  refine ⟨hk, hk2, _, _, by simpa using ho, by simpa using ho2, ?_, ?_⟩
  · refine loud_clone T hs hx (fun w' h => R _ w' (fun _ h => h) h) hl h1 h63 hbytes fun a' c' => ?_
    have g1 := hGE (RowT e size (.slice a' m c') m news :: l) (fun x hx => List.mem_cons_of_mem _ hx)
    refine ⟨⟨g1.1, fun _ => g1.2⟩, loud_bs (hy2 _) hT hv fun p => ?_⟩
    have g2 := hGE (Cel p cr e2 :: RowT e size (.slice a' m c') m news :: l) (fun x hx => List.mem_cons_of_mem _ (List.mem_cons_of_mem _ hx))
    exact ⟨⟨g2.1, fun _ => g2.2⟩, h p a' c'⟩
  · refine loud_bs hy hT hv fun p => ?_
    have g1 := hGE (Cel p cr e2 :: l) (fun x hx => List.mem_cons_of_mem _ hx)
    refine ⟨⟨g1.1, fun _ => g1.2⟩, ?_⟩
    refine LoudG.perm (k := fun l' u => ∃ a' c', l' = RowT e size (.slice a' m c') m news :: Cel p cr e2 :: l ∧ u = .slice a' m c') (loud_clone T (hs2 _) (hx2 _) (fun w' h => R _ w' (fun _ h => List.mem_cons_of_mem _ h) h) hl h1 h63 hbytes fun a' c' => ⟨a', c', rfl, rfl⟩) ?_
    rintro _ _ ⟨a', c', rfl, rfl⟩
    have g2 := hGE (Cel p cr e2 :: RowT e size (.slice a' m c') m news :: l) (fun x hx => List.mem_cons_of_mem _ (List.mem_cons_of_mem _ hx))
    refine ⟨_, .swap _ _ _, ⟨g2.1, fun _ => g2.2⟩, ?_⟩
    have e := Act.put_comm a (x := some d2) (y := some d1) (.slice (some ⟨p, 0, none⟩) 1 1) (.slice a' m c') (fun d e1 e2 => hd (by cases e1; cases e2; rfl))
    rw [e]
    exact h p a' c'
theorem wpP_append {t e size bytes : Nat} {z : Value} (T : SlTy Try.prog t e size bytes z) {s x : Operand} (ho : lo[k]? = some ⟨dst, .call { callee := .builtin .append, args := #[s, x], argTypes := #[t, t] }, ty, pos, after, none⟩) (hk : loud.contains k = true)
    {v : Value} {b m c n : Nat} {xs news : List Value} {cc : Array Value} {te : TypeId} (hs : a.eval s = v) (hx : a.eval x = .slice (some ⟨b, 0, none⟩) m c) (pl : Pull l (RowT e size v n xs) r) (mb : Cel b cc te ∈ l) (hnews : cc.toList = news)
    (hl : news.length = m * size) (h1 : OneCells news) (h63 : n + m ≤ maxLen) (hbytes : (n + m) * bytes ≤ 140737488355328) 
    (hE : ∀ a' c', E l → E (RowT e size (.slice a' (n + m) c') (n + m) (xs ++ news) :: r)) (hG : ∀ a' c', G (RowT e size (.slice a' (n + m) c') (n + m) (xs ++ news) :: r)) (h : ∀ a' c', wpP Try.prog lo.toArray W G E loud hard K ks (RowT e size (.slice a' (n + m) c') (n + m) (xs ++ news) :: r) (a.put dst (.slice a' (n + m) c'))) : wpP Try.prog lo.toArray W G E loud hard K ((k, none) :: ks) l a :=
  wpP_loud ho hk (loud_append T hs hx pl mb hnews hl h1 h63 hbytes fun a' c' => ⟨hG a' c', (fun _ => hE a' c'), h a' c'⟩)
theorem wpP_storeC {T : TypeId} {guard : Option (Nat × Bool)} {x y : Operand} {b off : Nat} {v : Value} (CT : CellTy T) (ho : lo[k]? = some ⟨dst, .store T x y, ty, pos, after, guard⟩) (hk : loud.contains k = true) (hw : Region.wanted ⟨dst, .store T x y, ty, pos, after, guard⟩ (yielded lo.toArray a.tmps) = true) (hx : a.eval x = .pointer (some ⟨b, off, none⟩)) (hy : a.eval y = v) (hc : v.cells = #[v] ∧ v.oneCell' = true)
    {c c1 : Array Value} {t : TypeId} {l' : List Thing} (m : Cel b c t ∈ l) (hn : off < c.size) (hs : c.setIfInBounds off v = c1) (rp : Repl l (Cel b c t) (Cel b c1 t) l') (hh : hard.contains k = true) (hG : G l')
    (h : wpP Try.prog lo.toArray W G E loud hard K ks l' (a.put dst undef)) : wpP Try.prog lo.toArray W G E loud hard K ((k, none) :: ks) l a :=
  wpP_loud ho hk (loud_storeC CT hw hx hy hc m hn hs rp ⟨hG, (by rw [hh]; intro h0; cases h0), h⟩)
end
end Go.Proofs.Ytacglcpjbepfnaa
