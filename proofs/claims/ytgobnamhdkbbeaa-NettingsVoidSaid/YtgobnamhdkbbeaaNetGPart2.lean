/- Part 2 of what several laws stand on: Heap, Map, Ledger. -/
import Derived.Test.YtgobnamhdkbbeaaNetGPart1
import Derived.Maps.RangeRun
import Derived.DeepKeys4
import Derived.RowKit
/- Memory as a list of things: 'Heap W l w': behind W nothing of W has changed, and the things of l lie in w, apart from each other, in blocks of their own. Worlds stay variables; each step hands on one such fact. -/
namespace Go.Proofs.Ytgobnamhdkbbeaa
open Go.RowKit
set_option linter.unusedVariables false
set_option linter.unusedSimpArgs false

/-- A thing: the block where it lies (if any), and what is true of it there. -/
structure Thing where
  fp : Option Nat
  ok : World → Prop
  loc : ∀ w w' : World, (∀ k, fp = some k → w'.heap[k]? = w.heap[k]?) → ok w → ok w'
/-- A block known whole. -/
def Cel (p : Nat) (c : Array Value) (t : TypeId) : Thing := ⟨some p, fun w => blk w p = some (.cells c t (0, 0)), fun _ _ h ho => (h p rfl).trans ho⟩
/-- A row of a slice's value v: nil, or the head of a block. -/
def RowT (e size : Nat) (v : Value) (n : Nat) (xs : List Value) : Thing := ⟨v.ownBlock, fun w => w.ownsRow 0 e size v n xs, fun w w' h ho => by
  obtain ⟨h1, h2⟩ := ho
  refine ⟨h1, ?_⟩
  rcases h2 with h2 | ⟨g, cap, cur, rfl, hg, hh, r⟩
  · exact .inl h2
  · exact .inr ⟨g, cap, cur, rfl, hg, by rw [h g rfl]; exact hh, r⟩⟩
/-- A row that lies at the head of block g. -/
def Sl (g e size n c : Nat) (xs : List Value) : Thing := RowT e size (.slice (some ⟨g, 0, none⟩) n c) n xs

structure Heap (W : World) (l : List Thing) (w : World) : Prop where
  low : Below W.heap.size W w
  ok : ∀ x ∈ l, x.ok w
  fp : ∀ x ∈ l, ∀ k, x.fp = some k → W.heap.size ≤ k ∧ k < w.heap.size
  apart : l.Pairwise fun x y => ∀ k, x.fp = some k → y.fp ≠ some k
/-- l' is l with x' in the place of x. -/
inductive Repl : List Thing → Thing → Thing → List Thing → Prop
  | here {x x' : Thing} {l : List Thing} : Repl (x :: l) x x' (x' :: l)
  | there {x x' y : Thing} {l l' : List Thing} : Repl l x x' l' → Repl (y :: l) x x' (y :: l')
/-- r is l without x. -/
inductive Pull : List Thing → Thing → List Thing → Prop
  | here {x : Thing} {l : List Thing} : Pull (x :: l) x l
  | there {x y : Thing} {l l' : List Thing} : Pull l x l' → Pull (y :: l) x (y :: l')
theorem Pull.perm {l r : List Thing} {x : Thing} (h : Pull l x r) : l.Perm (x :: r) := by
  induction h with
  | here => exact .refl _
  | there _ ih => exact (ih.cons _).trans (.swap _ _ _)
theorem Repl.perm {l l' : List Thing} {x x' : Thing} (h : Repl l x x' l') : ∃ r, l.Perm (x :: r) ∧ l'.Perm (x' :: r) := by
  induction h with
  | here => exact ⟨_, .refl _, .refl _⟩
  | there h ih =>
    obtain ⟨r, h1, h2⟩ := ih
    exact ⟨_, (h1.cons _).trans (.swap _ _ _), (h2.cons _).trans (.swap _ _ _)⟩
theorem Repl.mem {l l' : List Thing} {x x' : Thing} (h : Repl l x x' l') : x ∈ l := by
  obtain ⟨r, h1, _⟩ := h.perm
  exact h1.mem_iff.2 (List.mem_cons_self ..)

section
variable {W w w' : World} {l l' r : List Thing} {x x' : Thing}
theorem Heap.start (W : World) : Heap W [] W := ⟨Below.refl _ _, (fun _ h => by cases h), (fun _ h => by cases h), .nil⟩
theorem Heap.perm (H : Heap W l w) (h : l.Perm l') : Heap W l' w :=
  ⟨H.low, fun x hx => H.ok x (h.mem_iff.2 hx), fun x hx => H.fp x (h.mem_iff.2 hx), (h.pairwise_iff (fun {x y} hxy k hy hx => hxy k hx hy)).1 H.apart⟩
theorem Heap.pull (H : Heap W l w) (h : Pull l x r) : Heap W (x :: r) w := H.perm h.perm
theorem Heap.tail (H : Heap W (x :: l) w) : Heap W l w := ⟨H.low, fun x hx => H.ok x (List.mem_cons_of_mem _ hx), fun x hx => H.fp x (List.mem_cons_of_mem _ hx), (List.pairwise_cons.1 H.apart).2⟩
theorem Heap.drop (H : Heap W l w) (h : Pull l x r) : Heap W r w := (H.pull h).tail
theorem Heap.nothing (H : Heap W l w) : Heap W [] w := ⟨H.low, (fun _ h => by cases h), (fun _ h => by cases h), .nil⟩
theorem Heap.top2 {y : Thing} {s : List Thing} (H : Heap W l w) (h1 : Pull l x r) (h2 : Pull r y s) : Heap W (x :: y :: s) w := H.perm (h1.perm.trans (h2.perm.cons _))
theorem Heap.top3 {y u : Thing} {s v : List Thing} (H : Heap W l w) (h1 : Pull l x r) (h2 : Pull r y s) (h3 : Pull s u v) : Heap W (x :: y :: u :: v) w := H.perm (h1.perm.trans ((h2.perm.trans (h3.perm.cons _)).cons _))
/-- The first thing turned into another one, of the same block or a new one. -/
theorem Heap.head (H : Heap W (x :: l) w) (hg : w.grownBy w' x.fp) (hok : x'.ok w') (hf : x'.fp = x.fp ∨ ∀ k, x'.fp = some k → w.heap.size ≤ k ∧ k < w'.heap.size) : Heap W (x' :: l) w' := by
  have hap := List.pairwise_cons.1 H.apart
  refine ⟨H.low.grown hg H.low.size (fun k hk => (H.fp x (List.mem_cons_self ..) k hk).1), ?_, ?_, List.pairwise_cons.2 ⟨?_, hap.2⟩⟩
  · intro y hy
    rcases List.mem_cons.1 hy with rfl | hy
    · exact hok
    · refine y.loc w w' (fun k hk => hg.block k (H.fp y (List.mem_cons_of_mem _ hy) k hk).2 (fun e => hap.1 y hy k e.symm hk)) (H.ok y (List.mem_cons_of_mem _ hy))
  · intro y hy k hk
    rcases List.mem_cons.1 hy with rfl | hy
    · rcases hf with hf | hf
      · have := H.fp x (List.mem_cons_self ..) k (hf ▸ hk); exact ⟨this.1, Nat.lt_of_lt_of_le this.2 hg.size⟩
      · exact ⟨Nat.le_trans H.low.size (hf k hk).1, (hf k hk).2⟩
    · have := H.fp y (List.mem_cons_of_mem _ hy) k hk; exact ⟨this.1, Nat.lt_of_lt_of_le this.2 hg.size⟩
  · intro y hy k hk hk'
    rcases hf with hf | hf
    · exact hap.1 y hy k (hf ▸ hk) hk'
    · have := H.fp y (List.mem_cons_of_mem _ hy) k hk'; have := hf k hk; omega
theorem Heap.upd (H : Heap W l w) (h : Repl l x x' l') (hg : w.grownBy w' x.fp) (hok : x'.ok w') (hf : x'.fp = x.fp ∨ ∀ k, x'.fp = some k → w.heap.size ≤ k ∧ k < w'.heap.size) : Heap W l' w' := by
  obtain ⟨r, h1, h2⟩ := h.perm
  exact ((H.perm h1).head hg hok hf).perm h2.symm
theorem Heap.add (H : Heap W l w) (hg : w.grownBy w' none) (hok : x.ok w') (hf : ∀ k, x.fp = some k → w.heap.size ≤ k ∧ k < w'.heap.size) : Heap W (x :: l) w' := by
  have H0 : Heap W ((⟨none, fun _ => True, fun _ _ _ h => h⟩ : Thing) :: l) w := ⟨H.low, fun y hy => by
      rcases List.mem_cons.1 hy with rfl | hy
      · trivial
      · exact H.ok y hy, fun y hy k hk => by
      rcases List.mem_cons.1 hy with rfl | hy
      · cases hk
      · exact H.fp y hy k hk, List.pairwise_cons.2 ⟨(fun _ _ _ h => by cases h), H.apart⟩⟩
  exact H0.head hg hok (.inr hf)
theorem Heap.grow (H : Heap W l w) (h : Ext w w') : Heap W l w' :=
  ⟨Below.trans H.low (Below.mono h H.low.size), fun x hx => x.loc w w' (fun k hk => h.block k (H.fp x hx k hk).2) (H.ok x hx), fun x hx k hk => ⟨(H.fp x hx k hk).1, Nat.lt_of_lt_of_le (H.fp x hx k hk).2 h.size⟩, H.apart⟩
theorem Heap.alloc (H : Heap W l w) (c : Array Value) (t : TypeId) : Heap W (Cel w.heap.size c t :: l) (w.alloc (.cells c t)) :=
  H.add ⟨rfl, rfl, rfl, by simp, fun k hk _ => Below.heap_alloc _ _ _ hk⟩ (blk_here rfl) (fun k hk => by cases hk; exact ⟨Nat.le_refl _, by simp⟩)
theorem Heap.drew (H : Heap W l w) : Heap W l w.drew := H.grow (Ext.refl w).drew
theorem Heap.blk (H : Heap W l w) {p : Nat} {c : Array Value} {t : TypeId} (m : Cel p c t ∈ l) : blk w p = some (.cells c t (0, 0)) := H.ok _ m
theorem Heap.rd (H : Heap W l w) {a : Option Addr} {xs : List Value} (R : Rd W a xs) : Rd w a xs := R.below H.low
theorem grown_setBlk {w : World} {p : Nat} {c : Array Value} : w.grownBy (setBlk w p c) (some p) :=
  ⟨rfl, rfl, rfl, by rw [size_setBlk]; exact Nat.le_refl _, fun k _ hk => setBlk_block w p c k (fun e => hk (by rw [e]))⟩
theorem Heap.set (H : Heap W l w) {p : Nat} {c c' : Array Value} {t : TypeId} (h : Repl l (Cel p c t) (Cel p c' t) l') : Heap W l' (setBlk w p c') :=
  H.upd h grown_setBlk (setBlk_same w p c' c t (0, 0) (H.blk h.mem)) (.inl rfl)
theorem RowT.sl {e size n : Nat} {v : Value} {xs : List Value} (h : (RowT e size v n xs).ok w) (hn : 0 < n) : ∃ g c, v = .slice (some ⟨g, 0, none⟩) n c ∧ n ≤ c ∧ c ≤ maxLen := by
  obtain ⟨_, ⟨_, rfl⟩ | ⟨g, c, cur, rfl, _, _, h1, h2, _⟩⟩ := h
  · omega
  · exact ⟨g, c, rfl, h1, h2⟩
theorem Heap.slRd (H : Heap W l w) {g e size n c : Nat} {xs : List Value} (m : Sl g e size n c xs ∈ l) : Rd w (some ⟨g, 0, none⟩) xs := by
  obtain ⟨h1, ⟨h, _⟩ | ⟨g', cap, cur, h, _, hh, _, _, _, ht⟩⟩ := H.ok _ m
  · cases h
  · cases h
    intro i hi
    refine ⟨g, 0, rfl, ?_⟩
    have hi' : i < (cur.toList.take (n * size)).length := by rw [ht]; exact hi
    have hlt : i < cur.size := by simp at hi'; omega
    subst ht
    simp only [World.cell?, Nat.zero_add, hh]
    simp
end

theorem wpQuiet_mono {P : Program} {ops : Array Oper} {C : World → Prop} {K K' : Act → Prop} (hk : ∀ a, K a → K' a) : ∀ (l : List Oper) (a : Act), wpQuiet P ops C K l a → wpQuiet P ops C K' l a
  | [], _, h => hk _ h
  | o :: l, a, h => by
    unfold wpQuiet at *
    split
    · rename_i hw; rw [if_pos hw] at h; exact Oper.quiet_mono (fun a' => wpQuiet_mono hk l a') h
    · rename_i hw; rw [if_neg hw] at h; exact wpQuiet_mono hk l _ h
section
variable {ops : Array Oper} {rest : List Oper} {o : Oper} {a : Act} {w W : World} {l : List Thing} {Q : Exit → Act → World → Prop} {T n : Nat} {z : Array Value}
theorem wpl_loadCH {dst : Option Tmp} {ty : TypeId} {pos : String} {after : Array Edge} {guard : Option (Nat × Bool)} {x : Operand} {b off : Nat} (CT : CellTy T) (hw : Region.wanted ⟨dst, .load T x, ty, pos, after, guard⟩ (yielded ops a.tmps) = true) (hx : a.eval x = .pointer (some ⟨b, off, none⟩))
    (H : Heap W l w) {c : Array Value} {v : Value} {t : TypeId} (m : Cel b c t ∈ l) (hv : c[off]? = some v) (h : wpList Try.prog ops Q rest (a.put dst v) w) : wpList Try.prog ops Q (⟨dst, .load T x, ty, pos, after, guard⟩ :: rest) a w :=
  wpl_loadC CT hw hx (H.blk m) hv h
theorem wpl_loadRH {dst : Option Tmp} {ty : TypeId} {pos : String} {after : Array Edge} {guard : Option (Nat × Bool)} {x : Operand} {b off : Nat} (RT : RowTy T n z) (hw : Region.wanted ⟨dst, .load T x, ty, pos, after, guard⟩ (yielded ops a.tmps) = true) (hx : a.eval x = .pointer (some ⟨b, off, none⟩))
    (H : Heap W l w) {c c1 : Array Value} {t : TypeId} (m : Cel b c t ∈ l) (hn : off + n ≤ c.size) (he : c.extract off (off + n) = c1) (h : wpList Try.prog ops Q rest (a.put dst (.agg c1)) w) : wpList Try.prog ops Q (⟨dst, .load T x, ty, pos, after, guard⟩ :: rest) a w :=
  wpl_loadR RT hw hx (H.blk m) hn he h
theorem wpl_storeCH {dst : Option Tmp} {ty : TypeId} {pos : String} {after : Array Edge} {guard : Option (Nat × Bool)} {x y : Operand} {b off : Nat} {v : Value} (CT : CellTy T) (hw : Region.wanted ⟨dst, .store T x y, ty, pos, after, guard⟩ (yielded ops a.tmps) = true) (hx : a.eval x = .pointer (some ⟨b, off, none⟩)) (hy : a.eval y = v) (hc : v.cells = #[v] ∧ v.oneCell' = true)
    {c c1 : Array Value} {t : TypeId} {l' : List Thing} (H : Heap W l w) (m : Cel b c t ∈ l) (hn : off < c.size) (hs : c.setIfInBounds off v = c1) (r : Repl l (Cel b c t) (Cel b c1 t) l')
    (h : ∀ w', Heap W l' w' → wpList Try.prog ops Q rest (a.put dst undef) w') : wpList Try.prog ops Q (⟨dst, .store T x y, ty, pos, after, guard⟩ :: rest) a w :=
  wpl_storeC CT hw hx hy hc (H.blk m) hn hs ⟨⟨_, H.blk m⟩, rfl⟩ (h _ (H.set r))
theorem wpl_storeIH {dst : Option Tmp} {ty : TypeId} {pos : String} {after : Array Edge} {guard : Option (Nat × Bool)} {x y : Operand} {b off : Nat} {k0 : IntKind} {n0 : Int} (CT : CellTy T) (hw : Region.wanted ⟨dst, .store T x y, ty, pos, after, guard⟩ (yielded ops a.tmps) = true) (hx : a.eval x = .pointer (some ⟨b, off, none⟩)) (hy : a.eval y = .int k0 n0)
    {c c1 : Array Value} {t : TypeId} {l' : List Thing} (H : Heap W l w) (m : Cel b c t ∈ l) (hn : off < c.size) (hs : c.setIfInBounds off (.int k0 n0) = c1) (r : Repl l (Cel b c t) (Cel b c1 t) l')
    (h : ∀ w', Heap W l' w' → wpList Try.prog ops Q rest (a.put dst undef) w') : wpList Try.prog ops Q (⟨dst, .store T x y, ty, pos, after, guard⟩ :: rest) a w :=
  wpl_storeCH CT hw hx hy ⟨rfl, rfl⟩ H m hn hs r h
theorem wpl_storeBH {dst : Option Tmp} {ty : TypeId} {pos : String} {after : Array Edge} {guard : Option (Nat × Bool)} {x y : Operand} {b off : Nat} {b0 : Bool} (CT : CellTy T) (hw : Region.wanted ⟨dst, .store T x y, ty, pos, after, guard⟩ (yielded ops a.tmps) = true) (hx : a.eval x = .pointer (some ⟨b, off, none⟩)) (hy : a.eval y = .bool b0)
    {c c1 : Array Value} {t : TypeId} {l' : List Thing} (H : Heap W l w) (m : Cel b c t ∈ l) (hn : off < c.size) (hs : c.setIfInBounds off (.bool b0) = c1) (r : Repl l (Cel b c t) (Cel b c1 t) l')
    (h : ∀ w', Heap W l' w' → wpList Try.prog ops Q rest (a.put dst undef) w') : wpList Try.prog ops Q (⟨dst, .store T x y, ty, pos, after, guard⟩ :: rest) a w :=
  wpl_storeCH CT hw hx hy ⟨rfl, rfl⟩ H m hn hs r h
theorem wpl_storeSH {dst : Option Tmp} {ty : TypeId} {pos : String} {after : Array Edge} {guard : Option (Nat × Bool)} {x y : Operand} {b off : Nat} {a0 : Option Addr} {n0 c0 : Nat} (CT : CellTy T) (hw : Region.wanted ⟨dst, .store T x y, ty, pos, after, guard⟩ (yielded ops a.tmps) = true) (hx : a.eval x = .pointer (some ⟨b, off, none⟩)) (hy : a.eval y = .slice a0 n0 c0)
    {c c1 : Array Value} {t : TypeId} {l' : List Thing} (H : Heap W l w) (m : Cel b c t ∈ l) (hn : off < c.size) (hs : c.setIfInBounds off (.slice a0 n0 c0) = c1) (r : Repl l (Cel b c t) (Cel b c1 t) l')
    (h : ∀ w', Heap W l' w' → wpList Try.prog ops Q rest (a.put dst undef) w') : wpList Try.prog ops Q (⟨dst, .store T x y, ty, pos, after, guard⟩ :: rest) a w :=
  wpl_storeCH CT hw hx hy ⟨rfl, rfl⟩ H m hn hs r h
theorem wpl_storePH {dst : Option Tmp} {ty : TypeId} {pos : String} {after : Array Edge} {guard : Option (Nat × Bool)} {x y : Operand} {b off : Nat} {a0 : Option Addr} (CT : CellTy T) (hw : Region.wanted ⟨dst, .store T x y, ty, pos, after, guard⟩ (yielded ops a.tmps) = true) (hx : a.eval x = .pointer (some ⟨b, off, none⟩)) (hy : a.eval y = .pointer a0)
    {c c1 : Array Value} {t : TypeId} {l' : List Thing} (H : Heap W l w) (m : Cel b c t ∈ l) (hn : off < c.size) (hs : c.setIfInBounds off (.pointer a0) = c1) (r : Repl l (Cel b c t) (Cel b c1 t) l')
    (h : ∀ w', Heap W l' w' → wpList Try.prog ops Q rest (a.put dst undef) w') : wpList Try.prog ops Q (⟨dst, .store T x y, ty, pos, after, guard⟩ :: rest) a w :=
  wpl_storeCH CT hw hx hy ⟨rfl, rfl⟩ H m hn hs r h
theorem wpl_storeRH {dst : Option Tmp} {ty : TypeId} {pos : String} {after : Array Edge} {guard : Option (Nat × Bool)} {x y : Operand} {b off : Nat} {c2 : Array Value} (RT : RowTy T n z) (hw : Region.wanted ⟨dst, .store T x y, ty, pos, after, guard⟩ (yielded ops a.tmps) = true) (hx : a.eval x = .pointer (some ⟨b, off, none⟩)) (hy : a.eval y = .agg c2) (hc : Cells n c2)
    {c c1 : Array Value} {t : TypeId} {l' : List Thing} (H : Heap W l w) (m : Cel b c t ∈ l) (hn : off + n ≤ c.size) (hs : splice c off c2 = c1) (r : Repl l (Cel b c t) (Cel b c1 t) l')
    (h : ∀ w', Heap W l' w' → wpList Try.prog ops Q rest (a.put dst undef) w') : wpList Try.prog ops Q (⟨dst, .store T x y, ty, pos, after, guard⟩ :: rest) a w :=
  wpl_storeR RT hw hx hy hc (H.blk m) hn hs ⟨⟨_, H.blk m⟩, rfl⟩ (h _ (H.set r))
theorem wpl_allocRH {dst : Option Tmp} {ty : TypeId} {pos : String} {after : Array Edge} {guard : Option (Nat × Bool)} (RT : RowTy T n z) (hw : Region.wanted ⟨dst, .alloc T, ty, pos, after, guard⟩ (yielded ops a.tmps) = true)
    (H : Heap W l w) (h : ∀ p w', Heap W (Cel p z T :: l) w' → wpList Try.prog ops Q rest (a.put dst (.pointer (some ⟨p, 0, none⟩))) w') : wpList Try.prog ops Q (⟨dst, .alloc T, ty, pos, after, guard⟩ :: rest) a w :=
  wpl_allocR RT hw (h _ _ (H.alloc _ _))
theorem wpl_allocCH {dst : Option Tmp} {ty : TypeId} {pos : String} {after : Array Edge} {guard : Option (Nat × Bool)} {zv : Value} (hz : (Try.prog.info? T).bind (·.zero) = some zv ∧ zv.cells = #[zv]) (hw : Region.wanted ⟨dst, .alloc T, ty, pos, after, guard⟩ (yielded ops a.tmps) = true)
    (H : Heap W l w) (h : ∀ p w', Heap W (Cel p #[zv] T :: l) w' → wpList Try.prog ops Q rest (a.put dst (.pointer (some ⟨p, 0, none⟩))) w') : wpList Try.prog ops Q (⟨dst, .alloc T, ty, pos, after, guard⟩ :: rest) a w := by
  obtain ⟨hz, hz1⟩ := hz
  refine BigFrame.wpList_want hw fun K hK => ?_
  cases hi : Try.prog.info? T with
  | none => rw [hi] at hz; cases hz
  | some i =>
    rw [hi] at hz
    have hz' : i.zero = some zv := hz
    unfold Oper.wp execOp
    have r2 : (zeroValue T).run Try.prog w = .ok zv w := by simp [zeroValue, typeInfo, hi, hz', go_sem]
    simp only [Instr.alloc, Sem.run_bind, r2, Result.andThen_ok, newVar, newRow, hz1]
    exact hK _ _ (h _ _ (H.alloc _ _))
theorem wpl_boxRH {dst : Option Tmp} {ty : TypeId} {pos : String} {after : Array Edge} {guard : Option (Nat × Bool)} {x : Operand} {c : Array Value} (hw : Region.wanted ⟨dst, .box T x, ty, pos, after, guard⟩ (yielded ops a.tmps) = true) (hx : a.eval x = .agg c)
    (H : Heap W l w) (h : ∀ p w', Heap W (Cel p c T :: l) w' → wpList Try.prog ops Q rest (a.put dst (.pointer (some ⟨p, 0, none⟩))) w') : wpList Try.prog ops Q (⟨dst, .box T x, ty, pos, after, guard⟩ :: rest) a w := by
  refine BigFrame.wpList_want hw fun K hK => ?_
  unfold Oper.wp execOp
  simp only [hx, Instr.box, newVar, newRow, Value.cells]
  exact hK _ _ (h _ _ (H.alloc _ _))
theorem wpl_boxCH {dst : Option Tmp} {ty : TypeId} {pos : String} {after : Array Edge} {guard : Option (Nat × Bool)} {x : Operand} {v : Value} (hw : Region.wanted ⟨dst, .box T x, ty, pos, after, guard⟩ (yielded ops a.tmps) = true) (hx : a.eval x = v) (hv : v.cells = #[v])
    (H : Heap W l w) (h : ∀ p w', Heap W (Cel p #[v] T :: l) w' → wpList Try.prog ops Q rest (a.put dst (.pointer (some ⟨p, 0, none⟩))) w') : wpList Try.prog ops Q (⟨dst, .box T x, ty, pos, after, guard⟩ :: rest) a w := by
  refine BigFrame.wpList_want hw fun K hK => ?_
  unfold Oper.wp execOp
  simp only [hx, Instr.box, newVar, newRow, hv]
  exact hK _ _ (h _ _ (H.alloc _ _))
theorem wpl_boxPH {dst : Option Tmp} {ty : TypeId} {pos : String} {after : Array Edge} {guard : Option (Nat × Bool)} {x : Operand} {q : Option Addr} (hw : Region.wanted ⟨dst, .box T x, ty, pos, after, guard⟩ (yielded ops a.tmps) = true) (hx : a.eval x = .pointer q)
    (H : Heap W l w) (h : ∀ p w', Heap W (Cel p #[.pointer q] T :: l) w' → wpList Try.prog ops Q rest (a.put dst (.pointer (some ⟨p, 0, none⟩))) w') : wpList Try.prog ops Q (⟨dst, .box T x, ty, pos, after, guard⟩ :: rest) a w :=
  wpl_boxCH hw hx rfl H h
/-- A callee that only makes memory. -/
theorem Ans.callH {f : FuncId} {args : Array Value} {v : Value} {R : Ending → World → Prop} (h : Ans f args v) (H : Heap W l w) (k : ∀ w', Heap W l w' → R (.returned v) w') : Calls Try.prog f args w R :=
  (h w).mono fun _ _ ⟨he, hb⟩ => by rw [he]; exact k _ (H.grow hb)
/-- In whatever world where these things lie so, it answers v, and they lie so then. -/
def AnsH (W : World) (l : List Thing) (f : FuncId) (args : Array Value) (v : Value) : Prop := ∀ w, Heap W l w → Calls Try.prog f args w fun e w' => e = .returned v ∧ Heap W l w'
theorem AnsH.call {f : FuncId} {args : Array Value} {v : Value} {R : Ending → World → Prop} (h : AnsH W l f args v) (H : Heap W l w) (k : ∀ w', Heap W l w' → R (.returned v) w') : Calls Try.prog f args w R :=
  (h w H).mono fun _ _ ⟨he, hb⟩ => by rw [he]; exact k _ hb
theorem Ans.toH {f : FuncId} {args : Array Value} {v : Value} (h : Ans f args v) : AnsH W l f args v := fun w H => (h w).mono fun _ _ ⟨he, hb⟩ => ⟨he, H.grow hb⟩
open Classical in
/-- Whatever world in which the things lie so. -/
noncomputable def Heap.any {W w : World} {l : List Thing} (_ : Heap W l w) (d : World) : World := if Heap W l d then d else w
theorem Heap.any_heap (H : Heap W l w) (d : World) : Heap W l (H.any d) := by
  unfold Heap.any
  split
  · assumption
  · exact H
theorem Heap.any_of (H : Heap W l w) {w' : World} (h : Heap W l w') : ∃ d, w' = H.any d := ⟨w', by unfold Heap.any; rw [if_pos h]⟩
theorem AnsH.quiet {f : FuncId} {args : Array Value} {v : Value} {H : Heap W l w} {d : World} (h : AnsH W l f args v) : Calls Try.prog f args (H.any d) fun e w'' => e = .returned v ∧ ∃ m, w'' = H.any m :=
  (h _ (H.any_heap d)).mono fun _ _ ⟨he, hb⟩ => ⟨he, H.any_of hb⟩
theorem Ans.quietH {f : FuncId} {args : Array Value} {v : Value} {H : Heap W l w} {d : World} (h : Ans f args v) : Calls Try.prog f args (H.any d) fun e w'' => e = .returned v ∧ ∃ m, w'' = H.any m := AnsH.quiet h.toH
/-- A region that draws its order and only reads, or calls what leaves the things so. -/
theorem wp_region_H {id : Nat} {Q : Exit → Act → World → Prop} {a : Act} {lo : List Oper} (H : Heap W l w) (hm : Try.prog.follows .mixedOrders = true) (hB : Region.lexB .any lo.toArray = true)
    (h : wpQuiet Try.prog lo.toArray (fun w' => ∃ d, w' = H.any d) (fun a' => ∀ w', Heap W l w' → Q .normal a' w') lo a) : (Code.region id lo.toArray true).wp Try.prog Q a w := by
  refine wp_region_quiet (C := fun w' => ∃ d, w' = H.any d) hm hB (H.any_of H.drew) (wpQuiet_mono (fun _ h w' hw' => by obtain ⟨d, rfl⟩ := hw'; exact h _ (H.any_heap d)) _ _ (by simpa using h))
theorem wp_region_H_tail {id : Nat} {Q : Exit → Act → World → Prop} {a : Act} {lo : List Oper} (n : Nat) (H : Heap W l w) (hm : Try.prog.follows .mixedOrders = true) (hB : Region.lexTailB .any lo.toArray n = true)
    (h : wpQuiet Try.prog lo.toArray (fun w' => ∃ d, w' = H.any d) (fun a' => ∀ w', Heap W l w' → wpList Try.prog lo.toArray Q (lo.drop n) a' w') (lo.take n) a) : (Code.region id lo.toArray true).wp Try.prog Q a w := by
  refine wp_region_tail (C := fun w' => ∃ d, w' = H.any d) n hm hB (H.any_of H.drew) (wpQuiet_mono (fun _ h w' hw' => by obtain ⟨d, rfl⟩ := hw'; exact h _ (H.any_heap d)) _ _ (by simpa using h))
theorem wpQ_loadCH {dst : Option Tmp} {ty : TypeId} {pos : String} {after : Array Edge} {guard : Option (Nat × Bool)} {x : Operand} {b off : Nat} {K : Act → Prop} {H : Heap W l w} (CT : CellTy T) (hw : Region.wanted ⟨dst, .load T x, ty, pos, after, guard⟩ (yielded ops a.tmps) = true) (hx : a.eval x = .pointer (some ⟨b, off, none⟩))
    {c : Array Value} {v : Value} {t : TypeId} (m : Cel b c t ∈ l) (hv : c[off]? = some v)
    (h : wpQuiet Try.prog ops (fun w' => ∃ d, w' = H.any d) K rest (a.put dst v)) : wpQuiet Try.prog ops (fun w' => ∃ d, w' = H.any d) K (⟨dst, .load T x, ty, pos, after, guard⟩ :: rest) a := by
  refine BigFrame.wpQuiet_want hw fun K hK => ⟨_, ?_, hK _ h⟩
  rintro _ ⟨d, rfl⟩
  unfold Oper.quietAt execOp
  simp only [hx, Sem.run_bind, run_loadC CT ((H.any_heap d).blk m) hv]
  exact ⟨rfl, rfl⟩
theorem wpQ_loadRH {dst : Option Tmp} {ty : TypeId} {pos : String} {after : Array Edge} {guard : Option (Nat × Bool)} {x : Operand} {b off : Nat} {K : Act → Prop} {H : Heap W l w} (RT : RowTy T n z) (hw : Region.wanted ⟨dst, .load T x, ty, pos, after, guard⟩ (yielded ops a.tmps) = true) (hx : a.eval x = .pointer (some ⟨b, off, none⟩))
    {c c1 : Array Value} {t : TypeId} (m : Cel b c t ∈ l) (hn : off + n ≤ c.size) (he : c.extract off (off + n) = c1)
    (h : wpQuiet Try.prog ops (fun w' => ∃ d, w' = H.any d) K rest (a.put dst (.agg c1))) : wpQuiet Try.prog ops (fun w' => ∃ d, w' = H.any d) K (⟨dst, .load T x, ty, pos, after, guard⟩ :: rest) a := by
  subst he
  refine BigFrame.wpQuiet_want hw fun K hK => ⟨_, ?_, hK _ h⟩
  rintro _ ⟨d, rfl⟩
  unfold Oper.quietAt execOp
  simp only [hx, Sem.run_bind, run_loadR RT ((H.any_heap d).blk m) hn]
  exact ⟨rfl, rfl⟩
theorem run_buildSlice1 {t e : Nat} {zs : Array Value} (hu : Try.prog.underlying t = some (.slice e)) (RT : (Try.prog.info? e).map (fun i => (i.size, i.zero.map Value.cells)) = some (zs.size, some zs)) (h0 : 0 < zs.size) (h1 : zs.size ≤ 65536) (v : Value) (hv : v.cells.size = zs.size) (w : World) :
    (Instr.buildSlice t 1 #[(0, v)]).run Try.prog w = .ok (.slice (some ⟨w.heap.size, 0, none⟩) 1 1) (w.alloc (.cells v.cells e)) := by
  obtain ⟨i, hi, he⟩ := Option.map_eq_some_iff.1 RT
  simp only [Prod.mk.injEq] at he
  obtain ⟨hs, hz⟩ := he
  obtain ⟨zv, hzv, rfl⟩ := Option.map_eq_some_iff.1 hz
  have hne : zv.cells.size ≠ 0 := by omega
  have hbig : ¬ (2 ^ 24 < zv.cells.size) := by omega
  have key : ∀ (xs : List Value) (k : Nat) (pre post : List Value), pre.length = k → xs.length ≤ post.length → (List.foldl (fun (cs : Array Value) (x : Value × Nat) => cs.setIfInBounds x.2 x.1) (pre ++ post).toArray (xs.zipIdx k)) = (pre ++ xs ++ post.drop xs.length).toArray := by
    intro xs
    induction xs with
    | nil => intro k pre post _ _; simp
    | cons x xs ih =>
      intro k pre post hk hl
      rcases post with _ | ⟨y, post⟩
      · simp at hl
      · subst hk
        simp only [List.zipIdx_cons, List.foldl_cons, List.setIfInBounds_toArray]
        have := ih (pre.length + 1) (pre ++ [x]) post (by simp) (by simpa using hl)
        rw [show (pre ++ y :: post).set pre.length x = (pre ++ [x]) ++ post by simp [List.set_append], this]
        simp
  have hk := key v.cells.toList 0 [] (List.map (fun j => zv.cells[j % zv.cells.size]!) (List.range zv.cells.size)) rfl (by simp [hv])
  simp only [List.nil_append, List.length_map, Array.length_toList] at hk
  have hk2 : Array.foldl (fun (cs : Array Value) (x : Value × Nat) => cs.setIfInBounds x.2 x.1) (Array.map (fun j => zv.cells[j % zv.cells.size]!) (Array.range zv.cells.size)) v.cells.zipIdx = v.cells := by
    rw [← Array.foldl_toList]
    simp only [Array.toList_zipIdx]
    rw [show Array.map (fun j => zv.cells[j % zv.cells.size]!) (Array.range zv.cells.size) = (List.map (fun j => zv.cells[j % zv.cells.size]!) (List.range zv.cells.size)).toArray by
      apply Array.ext'; simp]
    rw [hk]
    rw [List.drop_eq_nil_of_le (by simp [hv])]
    simp
  have hsz : (Array.map (fun j => zv.cells[j % zv.cells.size]!) (Array.range zv.cells.size)).size = zv.cells.size := by simp
  have r1 : (sizeOf e).run Try.prog w = .ok zv.cells.size w := by simp [sizeOf, typeInfo, hi, hs, go_sem]
  have r2 : (zeroValue e).run Try.prog w = .ok zv w := by simp [zeroValue, typeInfo, hi, hzv, go_sem]
  have hf : Instr.fill (fun i => some (i * zv.cells.size, zv.cells.size)) (Array.map (fun x => zv.cells[x % zv.cells.size]!) (Array.range zv.cells.size)) [(0, v)] = some v.cells := by
    unfold Instr.fill
    simp only [Nat.zero_mul, Nat.zero_add, hsz, hv]
    rw [if_neg (by simp)]
    unfold Instr.fill
    exact congrArg some hk2
  unfold Instr.buildSlice
  rw [Sem.run_bind, run_underlying hu]
  simp only [Result.andThen_ok]
  rw [Sem.run_bind, r1]
  simp only [Result.andThen_ok, Nat.one_mul]
  rw [if_neg hbig, if_neg hne]
  simp only [Sem.run_bind, r2, Result.andThen_ok, Sem.run_pure]
  rw [hf]
  simp [newRow, go_sem]
theorem wpl_bsH {dst : Option Tmp} {ty : TypeId} {pos : String} {after : Array Edge} {guard : Option (Nat × Bool)} {x : Operand} {v : Value} {t e : Nat} {c zs : Array Value} (hw : Region.wanted ⟨dst, .buildSlice t 1 #[(0, x)], ty, pos, after, guard⟩ (yielded ops a.tmps) = true) (hx : a.eval x = v) (hc : v.cells = c)
    (hT : Try.prog.underlying t = some (.slice e) ∧ (Try.prog.info? e).map (fun i => (i.size, i.zero.map Value.cells)) = some (zs.size, some zs) ∧ 0 < zs.size ∧ zs.size ≤ 65536) (hv : c.size = zs.size)
    (H : Heap W l w) (h : ∀ p w', Heap W (Cel p c e :: l) w' → wpList Try.prog ops Q rest (a.put dst (.slice (some ⟨p, 0, none⟩) 1 1)) w') : wpList Try.prog ops Q (⟨dst, .buildSlice t 1 #[(0, x)], ty, pos, after, guard⟩ :: rest) a w := by
  subst hc
  refine BigFrame.wpList_want hw fun K hK => ?_
  unfold Oper.wp execOp
  simp only [List.map_toArray, List.map_cons, List.map_nil, hx, Sem.run_bind, run_buildSlice1 hT.1 hT.2.1 hT.2.2.1 hT.2.2.2 v hv, Result.andThen_ok, Sem.run_pure]
  exact hK _ _ (h _ _ (H.alloc _ _))
theorem wpl_bsRH {dst : Option Tmp} {ty : TypeId} {pos : String} {after : Array Edge} {guard : Option (Nat × Bool)} {x : Operand} {t e : Nat} {c zs : Array Value} (hw : Region.wanted ⟨dst, .buildSlice t 1 #[(0, x)], ty, pos, after, guard⟩ (yielded ops a.tmps) = true) (hx : a.eval x = .agg c)
    (hT : Try.prog.underlying t = some (.slice e) ∧ (Try.prog.info? e).map (fun i => (i.size, i.zero.map Value.cells)) = some (zs.size, some zs) ∧ 0 < zs.size ∧ zs.size ≤ 65536) (hv : c.size = zs.size)
    (H : Heap W l w) (h : ∀ p w', Heap W (Cel p c e :: l) w' → wpList Try.prog ops Q rest (a.put dst (.slice (some ⟨p, 0, none⟩) 1 1)) w') : wpList Try.prog ops Q (⟨dst, .buildSlice t 1 #[(0, x)], ty, pos, after, guard⟩ :: rest) a w :=
  wpl_bsH hw hx rfl hT hv H h
theorem Heap.loadVar (RT : RowTy T n z) (H : Heap W l w) {b : Nat} {c : Array Value} {t : TypeId} (m : Cel b c t ∈ l) (hn : c.size = n) : (loadVar T ⟨b, 0, none⟩).run Try.prog w = .ok (.agg c) w := by
  obtain ⟨d, hu, hr⟩ := RT.und
  exact run_loadVar_row w b t T c (0, 0) d (H.blk m) hu (by cases d <;> first | rfl | (simp [TypeDesc.isRow] at hr)) (by rw [RT.size, hn])
theorem ret_row1H (RT : RowTy T n z) {fn : Func} {p : Tmp} (hf : fn.results = #[.cell p T]) {R : Ending → World → Prop} {b : Nat} (hp : a.tmps.getD p undef = .pointer (some ⟨b, 0, none⟩)) (hd : a.defers = [])
    (H : Heap W l w) {c : Array Value} {t : TypeId} (m : Cel b c t ∈ l) (hn : c.size = n) (h : R (.returned (.agg c)) w) : bodyPost Try.prog fn R .ret a w :=
  ret_rowR RT hf hp hd (H.blk m) hn h
theorem results_row3H (RT : RowTy T n z) {fn : Func} {p x y : Tmp} (hf : fn.results = #[.cell p T, .tmp x, .tmp y]) {tmps : Array Value} {b : Nat} (hp : tmps.getD p undef = .pointer (some ⟨b, 0, none⟩))
    (H : Heap W l w) {c : Array Value} {t : TypeId} (m : Cel b c t ∈ l) (hn : c.size = n) {vx vy : Value} (hx : tmps.getD x undef = vx) (hy : tmps.getD y undef = vy) : (results fn tmps).run Try.prog w = .ok (.tuple #[.agg c, vx, vy]) w := by
  have hp' : tmps[p]?.getD undef = .pointer (some ⟨b, 0, none⟩) := by simpa using hp
  have hx' : tmps[x]?.getD undef = vx := by simpa using hx
  have hy' : tmps[y]?.getD undef = vy := by simpa using hy
  simp [results, hf, hp', hx', hy', asAddr, H.loadVar RT m hn]
theorem ret_row3H (RT : RowTy T n z) {fn : Func} {p x y : Tmp} (hf : fn.results = #[.cell p T, .tmp x, .tmp y]) {R : Ending → World → Prop} {b : Nat} (hp : a.tmps.getD p undef = .pointer (some ⟨b, 0, none⟩)) (hd : a.defers = [])
    (H : Heap W l w) {c : Array Value} {t : TypeId} (m : Cel b c t ∈ l) (hn : c.size = n) {vx vy : Value} (hx : a.tmps.getD x undef = vx) (hy : a.tmps.getD y undef = vy) (h : R (.returned (.tuple #[.agg c, vx, vy])) w) : bodyPost Try.prog fn R .ret a w := by
  have hp' : a.tmps[p]?.getD undef = .pointer (some ⟨b, 0, none⟩) := by simpa using hp
  have hx' : a.tmps[x]?.getD undef = vx := by simpa using hx
  have hy' : a.tmps[y]?.getD undef = vy := by simpa using hy
  exact bodyPost_ret (v := .tuple #[.agg c, vx, vy]) (by simp [results, hf, hp', hx', hy', asAddr, H.loadVar RT m hn]) hd h
theorem ret_row2H (RT : RowTy T n z) {fn : Func} {p x : Tmp} (hf : fn.results = #[.cell p T, .tmp x]) {R : Ending → World → Prop} {b : Nat} (hp : a.tmps.getD p undef = .pointer (some ⟨b, 0, none⟩)) (hd : a.defers = [])
    (H : Heap W l w) {c : Array Value} {t : TypeId} (m : Cel b c t ∈ l) (hn : c.size = n) {vx : Value} (hx : a.tmps.getD x undef = vx) (h : R (.returned (.tuple #[.agg c, vx])) w) : bodyPost Try.prog fn R .ret a w := by
  have hp' : a.tmps[p]?.getD undef = .pointer (some ⟨b, 0, none⟩) := by simpa using hp
  have hx' : a.tmps[x]?.getD undef = vx := by simpa using hx
  exact bodyPost_ret (v := .tuple #[.agg c, vx]) (by simp [results, hf, hp', hx', asAddr, H.loadVar RT m hn]) hd h
end
end Go.Proofs.Ytgobnamhdkbbeaa

/- Maps as things: what they hold known up to the order of their entries. -/
namespace Go.Proofs.Ytgobnamhdkbbeaa
open Go.RowKit
set_option linter.unusedSimpArgs false
set_option linter.unusedVariables false
set_option maxRecDepth 100000

/-- What the laws need of a kind of keys. -/
structure KeyTy (k : TypeId) (KS : Value → Prop) : Prop where
  check : ∀ (w : World) (em : Bool) {v : Value}, KS v → (Instr.checkKey em 10000 k v).run Try.prog w = .ok () w
  find : ∀ (w : World) {x : Value}, KS x → ∀ es : List MapEntry, (∀ e ∈ es, KS e.key) →
    ((Instr.findKey k x es).run Try.prog w = .ok none w ∧ ∀ e ∈ es, e.key ≠ x) ∨ ∃ j e, (Instr.findKey k x es).run Try.prog w = .ok (some (j, e.val)) w ∧ es[j]? = some e ∧ e.key = x
  stays : ∀ (w : World) {v : Value}, KS v → (Instr.keyThatStays v v).run Try.prog w = .ok v w
theorem KeyTy.of {k : TypeId} (K : WideMaps.KeyLaw Try.prog k) : KeyTy k (fun v => ∃ l, keyOf Try.prog k v = some l) where
  check w em _ h := by obtain ⟨l, h⟩ := h; exact K.check w em h
  find w _ h es hes := by obtain ⟨l, h⟩ := h; exact K.find w h es hes
  stays w _ h := by obtain ⟨l, h⟩ := h; exact K.stays w h

def kvOf (e : MapEntry) : Value × Value := (e.key, e.val)
/-- These entries are those of L, in whatever order. -/
structure HoldsM (KS : Value → Prop) (es : Array MapEntry) (clock : Nat) (L : List (Value × Value)) : Prop where
  st : MapKept.Stamped es clock
  perm : (es.toList.map kvOf).Perm L
  ks : ∀ e ∈ es.toList, KS e.key
/-- A map in a block. -/
def MapT (KS : Value → Prop) (p : Nat) (L : List (Value × Value)) : Thing := ⟨some p, fun w => ∃ es clock, w.heap[p]? = some (.map es clock) ∧ HoldsM KS es clock L, fun _ _ h ⟨es, c, hb, hh⟩ => ⟨es, c, (h p rfl).trans hb, hh⟩⟩
/-- A map's block, known whole. -/
def MapX (p : Nat) (es : Array MapEntry) (clock : Nat) : Thing := ⟨some p, fun w => w.heap[p]? = some (.map es clock), fun _ _ h hb => (h p rfl).trans hb⟩
/-- An iterator over the map in block p. -/
def IterX (r p since : Nat) (seen : Array Nat) (c0 : Nat) : Thing := ⟨some r, fun w => w.heap[r]? = some (.mapIter (some p) since seen c0), fun _ _ h hb => (h r rfl).trans hb⟩

/-- What m[key] is: b: whether it is there. -/
def Look (L : List (Value × Value)) (key z : Value) (b : Bool) (r : Value) : Prop := (b = true ∧ (key, r) ∈ L) ∨ (b = false ∧ r = z ∧ ∀ x ∈ L, x.1 ≠ key)
/-- L' is L behind m[key] = v. -/
def PutM (L : List (Value × Value)) (key v : Value) (L' : List (Value × Value)) : Prop := ∃ rest, (∀ x ∈ rest, x.1 ≠ key) ∧ (L.Perm rest ∨ ∃ v0, L.Perm ((key, v0) :: rest)) ∧ L'.Perm ((key, v) :: rest)
/-- L' is L behind delete(m, key). -/
def DelM (L : List (Value × Value)) (key : Value) (L' : List (Value × Value)) : Prop := ∃ rest, (∀ x ∈ rest, x.1 ≠ key) ∧ (L.Perm rest ∨ ∃ v0, L.Perm ((key, v0) :: rest)) ∧ L'.Perm rest

theorem Repl.of_mem {l : List Thing} {x : Thing} (x' : Thing) (m : x ∈ l) : ∃ l', Repl l x x' l' := by
  induction l with
  | nil => cases m
  | cons y l ih =>
    rcases List.mem_cons.1 m with rfl | m
    · exact ⟨_, .here⟩
    · obtain ⟨l', hl'⟩ := ih m
      exact ⟨_, .there hl'⟩
theorem Repl.same {l l1 l2 : List Thing} {x x' : Thing} (h1 : Repl l x x' l1) (h2 : Repl l x x' l2) : l1.Perm l2 := by
  obtain ⟨r, a1, b1⟩ := h1.perm
  obtain ⟨s, a2, b2⟩ := h2.perm
  exact b1.trans (((a1.symm.trans a2).cons_inv.cons _).trans b2.symm)
theorem perm_erase {α : Type} : ∀ (l : List α) (j : Nat) (h : j < l.length), l.Perm (l[j] :: l.eraseIdx j)
  | [], j, h => by simp at h
  | x :: l, 0, _ => by simp
  | x :: l, j + 1, h => by
    simp only [List.getElem_cons_succ, List.eraseIdx_cons_succ]
    exact ((perm_erase l j (by simpa using h)).cons x).trans (.swap _ _ _)
section
variable {KS : Value → Prop} {es : Array MapEntry} {clock p : Nat} {L L' : List (Value × Value)} {w : World} {t k e : TypeId}
theorem HoldsM.size (h : HoldsM KS es clock L) : es.size = L.length := by
  have := h.perm.length_eq
  simpa using this
theorem HoldsM.keys (h : HoldsM KS es clock L) : (L.map (·.1)).Nodup := by
  have h3 := ((MapKept.stamped_iff es clock).1 h.st).2.2
  have : ((es.toList.map kvOf).map (·.1)).Nodup := by
    unfold List.Nodup
    rw [List.pairwise_map, List.pairwise_map]
    exact h3
  exact (h.perm.map (·.1)).nodup_iff.1 this
theorem HoldsM.entry (h : HoldsM KS es clock L) {x : Value × Value} (hx : x ∈ L) : ∃ en ∈ es.toList, kvOf en = x := by
  have := h.perm.mem_iff.2 hx
  obtain ⟨en, h1, h2⟩ := List.mem_map.1 this
  exact ⟨en, h1, h2⟩
theorem HoldsM.mem (h : HoldsM KS es clock L) {en : MapEntry} (hx : en ∈ es.toList) : (en.key, en.val) ∈ L := h.perm.mem_iff.1 (List.mem_map.2 ⟨en, hx, rfl⟩)
theorem nodup_fst {L : List (Value × Value)} (h : (L.map (·.1)).Nodup) {k v v' : Value} (h1 : (k, v) ∈ L) (h2 : (k, v') ∈ L) : v = v' := by
  induction L with
  | nil => cases h1
  | cons x r ih =>
    simp only [List.map_cons, List.nodup_cons] at h
    rcases List.mem_cons.1 h1 with h1 | h1 <;> rcases List.mem_cons.1 h2 with h2 | h2
    · rw [← h1] at h2; exact (Prod.mk.inj h2).2.symm
    · exact absurd (List.mem_map.2 ⟨_, h2, by rw [← h1]⟩) h.1
    · exact absurd (List.mem_map.2 ⟨_, h1, by rw [← h2]⟩) h.1
    · exact ih h.2 h1 h2
theorem run_lookM (K : KeyTy k KS) (ht : Try.prog.underlying t = some (.map k e)) {z : Value} (hz : (zeroValue e).run Try.prog w = .ok z w) (hb : w.heap[p]? = some (.map es clock)) (hh : HoldsM KS es clock L) {key : Value} (hk : KS key) {b : Bool} {r : Value} (hl : Look L key z b r) (c : Bool) :
    (Instr.lookup t (.map (some p)) key c).run Try.prog w = .ok (if c then .tuple #[r, .bool b] else r) w := by
  rcases K.find w hk es.toList hh.ks with ⟨h1, h2⟩ | ⟨j, e0, h1, h2, h3⟩
  · rcases hl with ⟨rfl, hm⟩ | ⟨rfl, rfl, _⟩
    · obtain ⟨en, hen, hkv⟩ := hh.entry hm
      exact absurd (by simpa [kvOf] using congrArg Prod.fst hkv) (h2 en hen)
    · simp [Instr.lookup, run_underlying ht, MapKept.run_getObj_map hb, K.check w _ hk, h1, hz, Result.andThen]
  · have hm := hh.mem (List.mem_of_getElem? h2)
    rcases hl with ⟨rfl, hm2⟩ | ⟨rfl, rfl, hn⟩
    · rw [h3] at hm
      obtain rfl := nodup_fst hh.keys hm2 hm
      simp [Instr.lookup, run_underlying ht, MapKept.run_getObj_map hb, K.check w _ hk, h1, Result.andThen]
    · exact absurd h3 (hn _ hm)
theorem run_putM (K : KeyTy k KS) (ht : Try.prog.underlying t = some (.map k e)) (hb : w.heap[p]? = some (.map es clock)) (hh : HoldsM KS es clock L) {key v : Value} (hk : KS key) (hp : PutM L key v L') :
    ∃ es' clock', (Instr.mapUpdate t (.map (some p)) key v).run Try.prog w = .ok () (ChangeMaps.setBlock w p (.map es' clock')) ∧ HoldsM KS es' clock' L' := by
  obtain ⟨rest, hr, hL, hL'⟩ := hp
  rcases K.find w hk es.toList hh.ks with ⟨h1, h2⟩ | ⟨j, e0, h1, h2, h3⟩
  · refine ⟨es.push ⟨key, v, clock⟩, clock + 1, ?_, MapKept.stamped_push hh.st h2, ?_, ?_⟩
    · simp [Instr.mapUpdate, run_underlying ht, MapKept.run_getObj_map hb, K.check w false hk, h1, MapKept.run_setObj_map _ hb, Result.andThen, ChangeMaps.setBlock]
    · rcases hL with hL | ⟨v0, hL⟩
      · simp only [Array.toList_push, List.map_append, List.map_cons, List.map_nil]
        refine (List.perm_append_singleton _ _).trans ?_
        exact (((hh.perm.trans hL).cons _).trans hL'.symm)
      · exfalso
        obtain ⟨en, hen, hkv⟩ := hh.entry (hL.mem_iff.2 (List.mem_cons_self ..))
        exact h2 en hen (by simpa [kvOf] using congrArg Prod.fst hkv)
    · intro x hx
      simp only [Array.toList_push, List.mem_append, List.mem_singleton] at hx
      rcases hx with hx | rfl
      · exact hh.ks x hx
      · exact hk
  · have hj : es[j]? = some e0 := by simpa using h2
    have hjl : j < es.toList.length := (List.getElem?_eq_some_iff.1 h2).1
    have hje : es.toList[j] = e0 := (List.getElem?_eq_some_iff.1 h2).2
    have hlist : (es.modify j (fun e' => { e' with key := key, val := v })).toList = es.toList.set j { e0 with key := key, val := v } := by rw [Array.toList_modify, ChangeMaps.modify_eq_set _ _ _ _ h2]
    refine ⟨es.modify j (fun e' => { e' with key := key, val := v }), clock, ?_, MapKept.stamped_modify hh.st _ _ (fun _ _ => rfl) (fun e' _ he' => by rw [hj] at he'; cases he'; exact h3.symm), ?_, ?_⟩
    · simp [Instr.mapUpdate, run_underlying ht, MapKept.run_getObj_map hb, K.check w false hk, h1, hj, h3, K.stays w hk, MapKept.run_setObj_map _ hb, Result.andThen, ChangeMaps.setBlock]
    · rw [hlist, List.map_set]
      have hp0 : (es.toList.map kvOf).Perm (kvOf e0 :: (es.toList.map kvOf).eraseIdx j) := by
        have := perm_erase (es.toList.map kvOf) j (by simpa using hjl)
        rw [List.getElem_map, hje] at this
        exact this
      have hp1 : ((es.toList.map kvOf).set j (kvOf { e0 with key := key, val := v })).Perm ((key, v) :: (es.toList.map kvOf).eraseIdx j) := ChangeMaps.set_perm _ _ (by simpa using hjl) _
      refine hp1.trans (List.Perm.trans ?_ hL'.symm)
      refine List.Perm.cons _ ?_
      have hk0 : kvOf e0 = (key, e0.val) := by unfold kvOf; rw [h3]
      rw [hk0] at hp0
      rcases hL with hL | ⟨v0, hL⟩
      · exfalso
        have := (hh.perm.trans hL).mem_iff.1 (hp0.mem_iff.2 (List.mem_cons_self ..))
        exact hr _ this rfl
      · have h5 := (hp0.symm.trans (hh.perm.trans hL))
        have hv : e0.val = v0 := nodup_fst hh.keys (hh.perm.mem_iff.1 (hp0.mem_iff.2 (List.mem_cons_self ..))) (hL.mem_iff.2 (List.mem_cons_self ..))
        rw [hv] at h5
        exact h5.cons_inv
    · intro x hx
      rw [hlist] at hx
      rcases List.mem_or_eq_of_mem_set hx with hx | rfl
      · exact hh.ks x hx
      · exact hk
theorem run_delM {ty : TypeId} (K : KeyTy k KS) (ht : Try.prog.underlying t = some (.map k e)) (hb : w.heap[p]? = some (.map es clock)) (hh : HoldsM KS es clock L) {key : Value} (hk : KS key) (hp : DelM L key L') :
    ∃ es' clock', (Builtin.delete_ #[t, k] ty #[.map (some p), key]).run Try.prog w = .ok (.tuple #[]) (ChangeMaps.setBlock w p (.map es' clock')) ∧ HoldsM KS es' clock' L' := by
  obtain ⟨rest, hr, hL, hL'⟩ := hp
  rcases K.find w hk es.toList hh.ks with ⟨h1, h2⟩ | ⟨j, e0, h1, h2, h3⟩
  · refine ⟨es, clock, ?_, hh.st, ?_, hh.ks⟩
    · simp [Builtin.delete_, run_underlying ht, MapKept.run_getObj_map hb, K.check w _ hk, h1, MapKept.run_setObj_map _ hb, Result.andThen, ChangeMaps.setBlock]
    · rcases hL with hL | ⟨v0, hL⟩
      · exact (hh.perm.trans hL).trans hL'.symm
      · exfalso
        obtain ⟨en, hen, hkv⟩ := hh.entry (hL.mem_iff.2 (List.mem_cons_self ..))
        exact h2 en hen (by simpa [kvOf] using congrArg Prod.fst hkv)
  · have hjl : j < es.toList.length := (List.getElem?_eq_some_iff.1 h2).1
    have hjs : j < es.size := by simpa using hjl
    have hje : es.toList[j] = e0 := (List.getElem?_eq_some_iff.1 h2).2
    have hsub : (es.eraseIdxIfInBounds j).toList = es.toList.eraseIdx j := by
      unfold Array.eraseIdxIfInBounds
      rw [dif_pos hjs]
      simp
    refine ⟨es.eraseIdxIfInBounds j, clock, ?_, MapKept.stamped_erase hh.st j, ?_, ?_⟩
    · simp [Builtin.delete_, run_underlying ht, MapKept.run_getObj_map hb, K.check w _ hk, h1, MapKept.run_setObj_map _ hb, Result.andThen, ChangeMaps.setBlock]
    · rw [hsub, ChangeMaps.map_eraseIdx]
      have hp0 : (es.toList.map kvOf).Perm (kvOf e0 :: (es.toList.map kvOf).eraseIdx j) := by
        have := perm_erase (es.toList.map kvOf) j (by simpa using hjl)
        rw [List.getElem_map, hje] at this
        exact this
      have hk0 : kvOf e0 = (key, e0.val) := by unfold kvOf; rw [h3]
      rw [hk0] at hp0
      refine List.Perm.trans ?_ hL'.symm
      rcases hL with hL | ⟨v0, hL⟩
      · exfalso
        exact hr _ ((hh.perm.trans hL).mem_iff.1 (hp0.mem_iff.2 (List.mem_cons_self ..))) rfl
      · have hv : e0.val = v0 := nodup_fst hh.keys (hh.perm.mem_iff.1 (hp0.mem_iff.2 (List.mem_cons_self ..))) (hL.mem_iff.2 (List.mem_cons_self ..))
        have h5 := hp0.symm.trans (hh.perm.trans hL)
        rw [hv] at h5
        exact h5.cons_inv
    · intro x hx
      rw [hsub] at hx
      exact hh.ks x ((List.eraseIdx_sublist _ _).subset hx)
theorem grown_setBlock {p : Nat} {o : Obj} : w.grownBy (ChangeMaps.setBlock w p o) (some p) :=
  ⟨rfl, rfl, rfl, by simp [ChangeMaps.setBlock], fun k _ hk => by
    have hne : p ≠ k := fun e => hk (by rw [e])
    simp [ChangeMaps.setBlock, Array.getElem?_setIfInBounds_ne hne]⟩
theorem setBlock_at {p : Nat} {o o' : Obj} (h : w.heap[p]? = some o) : (ChangeMaps.setBlock w p o').heap[p]? = some o' := by
  have hlt : p < w.heap.size := (Array.getElem?_eq_some_iff.1 h).1
  simp [ChangeMaps.setBlock, hlt]
end

section
variable {ops : Array Oper} {rest : List Oper} {a : Act} {w W : World} {l l' : List Thing} {Q : Exit → Act → World → Prop} {KS : Value → Prop} {k e : TypeId} {L L' : List (Value × Value)}
/-- What a map's type and its elements' zero say. -/
structure MapTy (t k e : TypeId) (KS : Value → Prop) (z : Value) : Prop where
  und : Try.prog.underlying t = some (.map k e)
  key : KeyTy k KS
  zero : ∀ w, (zeroValue e).run Try.prog w = .ok z w
theorem wpl_look {dst : Option Tmp} {ty : TypeId} {pos : String} {after : Array Edge} {guard : Option (Nat × Bool)} {t : TypeId} {x y : Operand} {p : Nat} {key z r : Value} {b c : Bool} (MT : MapTy t k e KS z) (hw : Region.wanted ⟨dst, .lookup t x y c, ty, pos, after, guard⟩ (yielded ops a.tmps) = true) (hx : a.eval x = .map (some p)) (hy : a.eval y = key) (hk : KS key)
    (H : Heap W l w) (m : MapT KS p L ∈ l) (hl : Look L key z b r) (h : wpList Try.prog ops Q rest (a.put dst (if c then .tuple #[r, .bool b] else r)) w) : wpList Try.prog ops Q (⟨dst, .lookup t x y c, ty, pos, after, guard⟩ :: rest) a w := by
  obtain ⟨es, clock, hb, hh⟩ := H.ok _ m
  refine BigFrame.wpList_want hw fun K hK => ?_
  unfold Oper.wp execOp
  simp only [hx, hy, Sem.run_bind, run_lookM MT.key MT.und (MT.zero w) hb hh hk hl c, Result.andThen_ok, Sem.run_pure]
  exact hK _ _ h
theorem wpQ_look {K : Act → Prop} {H : Heap W l w} {dst : Option Tmp} {ty : TypeId} {pos : String} {after : Array Edge} {guard : Option (Nat × Bool)} {t : TypeId} {x y : Operand} {p : Nat} {key z r : Value} {b c : Bool} (MT : MapTy t k e KS z) (hw : Region.wanted ⟨dst, .lookup t x y c, ty, pos, after, guard⟩ (yielded ops a.tmps) = true) (hx : a.eval x = .map (some p)) (hy : a.eval y = key) (hk : KS key)
    (m : MapT KS p L ∈ l) (hl : Look L key z b r) (h : wpQuiet Try.prog ops (fun w' => ∃ d, w' = H.any d) K rest (a.put dst (if c then .tuple #[r, .bool b] else r))) : wpQuiet Try.prog ops (fun w' => ∃ d, w' = H.any d) K (⟨dst, .lookup t x y c, ty, pos, after, guard⟩ :: rest) a := by
  refine BigFrame.wpQuiet_want hw fun K hK => ⟨_, ?_, hK _ h⟩
  rintro _ ⟨d, rfl⟩
  obtain ⟨es, clock, hb, hh⟩ := (H.any_heap d).ok _ m
  unfold Oper.quietAt execOp
  simp only [hx, hy, Sem.run_bind, run_lookM MT.key MT.und (MT.zero _) hb hh hk hl c]
  exact ⟨rfl, rfl⟩
theorem wpl_look0 {dst : Option Tmp} {ty : TypeId} {pos : String} {after : Array Edge} {guard : Option (Nat × Bool)} {t : TypeId} {x y : Operand} {p : Nat} {key z r : Value} {b : Bool} (MT : MapTy t k e KS z) (hw : Region.wanted ⟨dst, .lookup t x y false, ty, pos, after, guard⟩ (yielded ops a.tmps) = true) (hx : a.eval x = .map (some p)) (hy : a.eval y = key) (hk : KS key)
    (H : Heap W l w) (m : MapT KS p L ∈ l) (hl : Look L key z b r) (h : wpList Try.prog ops Q rest (a.put dst (r)) w) : wpList Try.prog ops Q (⟨dst, .lookup t x y false, ty, pos, after, guard⟩ :: rest) a w :=
  wpl_look MT hw hx hy hk H m hl (by rw [if_neg Bool.false_ne_true]; exact h)
theorem wpl_look1 {dst : Option Tmp} {ty : TypeId} {pos : String} {after : Array Edge} {guard : Option (Nat × Bool)} {t : TypeId} {x y : Operand} {p : Nat} {key z r : Value} {b : Bool} (MT : MapTy t k e KS z) (hw : Region.wanted ⟨dst, .lookup t x y true, ty, pos, after, guard⟩ (yielded ops a.tmps) = true) (hx : a.eval x = .map (some p)) (hy : a.eval y = key) (hk : KS key)
    (H : Heap W l w) (m : MapT KS p L ∈ l) (hl : Look L key z b r) (h : wpList Try.prog ops Q rest (a.put dst (.tuple #[r, .bool b])) w) : wpList Try.prog ops Q (⟨dst, .lookup t x y true, ty, pos, after, guard⟩ :: rest) a w :=
  wpl_look MT hw hx hy hk H m hl (by rw [if_pos rfl]; exact h)
theorem wpQ_look0 {K : Act → Prop} {H : Heap W l w} {dst : Option Tmp} {ty : TypeId} {pos : String} {after : Array Edge} {guard : Option (Nat × Bool)} {t : TypeId} {x y : Operand} {p : Nat} {key z r : Value} {b : Bool} (MT : MapTy t k e KS z) (hw : Region.wanted ⟨dst, .lookup t x y false, ty, pos, after, guard⟩ (yielded ops a.tmps) = true) (hx : a.eval x = .map (some p)) (hy : a.eval y = key) (hk : KS key)
    (m : MapT KS p L ∈ l) (hl : Look L key z b r) (h : wpQuiet Try.prog ops (fun w' => ∃ d, w' = H.any d) K rest (a.put dst (r))) : wpQuiet Try.prog ops (fun w' => ∃ d, w' = H.any d) K (⟨dst, .lookup t x y false, ty, pos, after, guard⟩ :: rest) a :=
  wpQ_look MT hw hx hy hk m hl (by rw [if_neg Bool.false_ne_true]; exact h)
theorem wpQ_look1 {K : Act → Prop} {H : Heap W l w} {dst : Option Tmp} {ty : TypeId} {pos : String} {after : Array Edge} {guard : Option (Nat × Bool)} {t : TypeId} {x y : Operand} {p : Nat} {key z r : Value} {b : Bool} (MT : MapTy t k e KS z) (hw : Region.wanted ⟨dst, .lookup t x y true, ty, pos, after, guard⟩ (yielded ops a.tmps) = true) (hx : a.eval x = .map (some p)) (hy : a.eval y = key) (hk : KS key)
    (m : MapT KS p L ∈ l) (hl : Look L key z b r) (h : wpQuiet Try.prog ops (fun w' => ∃ d, w' = H.any d) K rest (a.put dst (.tuple #[r, .bool b]))) : wpQuiet Try.prog ops (fun w' => ∃ d, w' = H.any d) K (⟨dst, .lookup t x y true, ty, pos, after, guard⟩ :: rest) a :=
  wpQ_look MT hw hx hy hk m hl (by rw [if_pos rfl]; exact h)
theorem wpl_putM {dst : Option Tmp} {ty : TypeId} {pos : String} {after : Array Edge} {guard : Option (Nat × Bool)} {t : TypeId} {x y u : Operand} {p : Nat} {key z v : Value} (MT : MapTy t k e KS z) (hw : Region.wanted ⟨dst, .mapUpdate t x y u, ty, pos, after, guard⟩ (yielded ops a.tmps) = true) (hx : a.eval x = .map (some p)) (hy : a.eval y = key) (hu : a.eval u = v) (hk : KS key)
    (H : Heap W l w) (hp : PutM L key v L') (r : Repl l (MapT KS p L) (MapT KS p L') l') (h : ∀ w', Heap W l' w' → wpList Try.prog ops Q rest (a.put dst undef) w') : wpList Try.prog ops Q (⟨dst, .mapUpdate t x y u, ty, pos, after, guard⟩ :: rest) a w := by
  obtain ⟨es, clock, hb, hh⟩ := H.ok _ r.mem
  obtain ⟨es', clock', hrun, hh'⟩ := run_putM MT.key MT.und hb hh hk hp
  refine BigFrame.wpList_want hw fun K hK => ?_
  unfold Oper.wp execOp
  simp only [hx, hy, hu, Sem.run_bind, hrun, Result.andThen_ok, Sem.run_pure]
  exact hK _ _ (h _ (H.upd r grown_setBlock ⟨es', clock', setBlock_at hb, hh'⟩ (.inl rfl)))
theorem wpl_delM {dst : Option Tmp} {ty : TypeId} {pos : String} {after : Array Edge} {guard : Option (Nat × Bool)} {t : TypeId} {x y : Operand} {p : Nat} {key z : Value} (MT : MapTy t k e KS z) (hw : Region.wanted ⟨dst, .call { callee := .builtin .delete, args := #[x, y], argTypes := #[t, k] }, ty, pos, after, guard⟩ (yielded ops a.tmps) = true) (hx : a.eval x = .map (some p)) (hy : a.eval y = key) (hk : KS key)
    (H : Heap W l w) (hp : DelM L key L') (r : Repl l (MapT KS p L) (MapT KS p L') l') (h : ∀ w', Heap W l' w' → wpList Try.prog ops Q rest (a.put dst (.tuple #[])) w') : wpList Try.prog ops Q (⟨dst, .call { callee := .builtin .delete, args := #[x, y], argTypes := #[t, k] }, ty, pos, after, guard⟩ :: rest) a w := by
  obtain ⟨es, clock, hb, hh⟩ := H.ok _ r.mem
  obtain ⟨es', clock', hrun, hh'⟩ := run_delM (ty := ty) MT.key MT.und hb hh hk hp
  refine BigFrame.wpList_want hw fun K hK => ?_
  unfold Oper.wp execOp
  simp only [resolve, invoke, builtin, List.map_toArray, List.map_cons, List.map_nil, hx, hy, Sem.run_bind, Sem.run_pure, hrun, Result.andThen_ok]
  exact hK _ _ (h _ (H.upd r grown_setBlock ⟨es', clock', setBlock_at hb, hh'⟩ (.inl rfl)))
theorem wpl_makeM {dst : Option Tmp} {ty : TypeId} {pos : String} {after : Array Edge} {guard : Option (Nat × Bool)} {t : TypeId} (hw : Region.wanted ⟨dst, .makeMap t none, ty, pos, after, guard⟩ (yielded ops a.tmps) = true)
    (H : Heap W l w) (h : ∀ p w', Heap W (MapT KS p [] :: l) w' → wpList Try.prog ops Q rest (a.put dst (.map (some p))) w') : wpList Try.prog ops Q (⟨dst, .makeMap t none, ty, pos, after, guard⟩ :: rest) a w := by
  refine BigFrame.wpList_want hw fun K hK => ?_
  unfold Oper.wp execOp
  simp only [Option.map_none, Instr.makeMap, newObj, Sem.run_bind]
  refine hK _ _ (h w.heap.size (w.alloc (.map #[] 0)) ?_)
  exact H.add ⟨rfl, rfl, rfl, by simp, fun k hk _ => Below.heap_alloc _ _ _ hk⟩ ⟨#[], 0, heap_alloc_new w _, MapKept.stamped_empty 0, by simp, by simp⟩ (fun k hk => by cases hk; exact ⟨Nat.le_refl _, by simp⟩)
theorem run_lenM {ty t p : Nat} (hu : Try.prog.underlying t = some (.map k e)) (H : Heap W l w) (m : MapT KS p L ∈ l) : (Builtin.len_ #[t] ty #[.map (some p)]).run Try.prog w = .ok (goInt L.length) w := by
  obtain ⟨es, clock, hb, hh⟩ := H.ok _ m
  simp [Builtin.len_, run_underlying hu, MapKept.run_getObj_map hb, hh.size, Result.andThen]
theorem wpl_lenM {dst : Option Tmp} {ty : TypeId} {pos : String} {after : Array Edge} {guard : Option (Nat × Bool)} {t : TypeId} {x : Operand} {p : Nat} (hu : Try.prog.underlying t = some (.map k e)) (hw : Region.wanted ⟨dst, .call { callee := .builtin .len, args := #[x], argTypes := #[t] }, ty, pos, after, guard⟩ (yielded ops a.tmps) = true) (hx : a.eval x = .map (some p))
    (H : Heap W l w) (m : MapT KS p L ∈ l) (h : wpList Try.prog ops Q rest (a.put dst (.int .i64 (L.length : Int))) w) : wpList Try.prog ops Q (⟨dst, .call { callee := .builtin .len, args := #[x], argTypes := #[t] }, ty, pos, after, guard⟩ :: rest) a w := by
  refine BigFrame.wpList_want hw fun K hK => ?_
  unfold Oper.wp execOp
  simp only [resolve, invoke, builtin, List.map_toArray, List.map_cons, List.map_nil, hx, Sem.run_bind, Sem.run_pure, run_lenM hu H m, Result.andThen_ok]
  exact hK _ _ h
theorem wpQ_lenM {K : Act → Prop} {H : Heap W l w} {dst : Option Tmp} {ty : TypeId} {pos : String} {after : Array Edge} {guard : Option (Nat × Bool)} {t : TypeId} {x : Operand} {p : Nat} (hu : Try.prog.underlying t = some (.map k e)) (hw : Region.wanted ⟨dst, .call { callee := .builtin .len, args := #[x], argTypes := #[t] }, ty, pos, after, guard⟩ (yielded ops a.tmps) = true) (hx : a.eval x = .map (some p))
    (m : MapT KS p L ∈ l) (h : wpQuiet Try.prog ops (fun w' => ∃ d, w' = H.any d) K rest (a.put dst (.int .i64 (L.length : Int)))) : wpQuiet Try.prog ops (fun w' => ∃ d, w' = H.any d) K (⟨dst, .call { callee := .builtin .len, args := #[x], argTypes := #[t] }, ty, pos, after, guard⟩ :: rest) a := by
  refine BigFrame.wpQuiet_want hw fun K hK => ⟨_, ?_, hK _ h⟩
  rintro _ ⟨d, rfl⟩
  unfold Oper.quietAt execOp
  simp only [resolve, invoke, builtin, List.map_toArray, List.map_cons, List.map_nil, hx, Sem.run_bind, Sem.run_pure, run_lenM hu (H.any_heap d) m, Result.andThen_ok]
  exact ⟨rfl, rfl⟩
/-- A map laid open, and shut again. -/
theorem Heap.openM {p : Nat} (H : Heap W (MapT KS p L :: l) w) : ∃ es clock, HoldsM KS es clock L ∧ Heap W (MapX p es clock :: l) w := by
  obtain ⟨es, clock, hb, hh⟩ := H.ok _ (List.mem_cons_self ..)
  exact ⟨es, clock, hh, H.head (World.grownBy.refl _ _) hb (.inl rfl)⟩
theorem Heap.shutM {p : Nat} {es : Array MapEntry} {clock : Nat} (H : Heap W (MapX p es clock :: l) w) (hh : HoldsM KS es clock L) : Heap W (MapT KS p L :: l) w :=
  H.head (World.grownBy.refl _ _) ⟨es, clock, H.ok _ (List.mem_cons_self ..), hh⟩ (.inl rfl)
theorem wpl_rangeM {dst : Option Tmp} {ty : TypeId} {pos : String} {after : Array Edge} {guard : Option (Nat × Bool)} {t : TypeId} {x : Operand} {p : Nat} {es : Array MapEntry} {clock : Nat} (hu : Try.prog.underlying t = some (.map k e)) (hw : Region.wanted ⟨dst, .range t x, ty, pos, after, guard⟩ (yielded ops a.tmps) = true) (hx : a.eval x = .map (some p))
    (H : Heap W l w) (m : MapX p es clock ∈ l) (h : ∀ r w', Heap W (IterX r p clock #[] clock :: l) w' → wpList Try.prog ops Q rest (a.put dst (.pointer (some ⟨r, 0, none⟩))) w') : wpList Try.prog ops Q (⟨dst, .range t x, ty, pos, after, guard⟩ :: rest) a w := by
  refine BigFrame.wpList_want hw fun K hK => ?_
  unfold Oper.wp execOp
  simp only [hx, Sem.run_bind, run_range_map w t k e p es clock hu (H.ok _ m), Result.andThen_ok, Sem.run_pure]
  refine hK _ _ (h w.heap.size (w.alloc (.mapIter (some p) clock #[] clock)) ?_)
  exact H.add ⟨rfl, rfl, rfl, by simp, fun k hk _ => Below.heap_alloc _ _ _ hk⟩ (heap_alloc_new w _) (fun k hk => by cases hk; exact ⟨Nat.le_refl _, by simp⟩)
/-- The step of a range over a map: all are done; or one more comes. -/
theorem wpl_nextM {dst : Option Tmp} {ty : TypeId} {pos : String} {after : Array Edge} {guard : Option (Nat × Bool)} {x : Operand} {r p c0 : Nat} {es : Array MapEntry} {clock : Nat} {done : List MapEntry} (hw : Region.wanted ⟨dst, .next x false, ty, pos, after, guard⟩ (yielded ops a.tmps) = true) (hx : a.eval x = .pointer (some ⟨r, 0, none⟩))
    (hst : MapKept.Stamped es clock) (hc : clock ≤ c0) (hd : ∀ y ∈ done, y ∈ es.toList) (hnd : done.Nodup) (H : Heap W l w) (m : MapX p es clock ∈ l) (m2 : IterX r p clock (done.map (fun e : MapEntry => e.born)).toArray c0 ∈ l)
    (h0 : done.Perm es.toList → wpList Try.prog ops Q rest (a.put dst (.tuple #[.bool false])) w)
    (h1 : ∀ en ∈ es.toList, en ∉ done → ∀ l', Repl l (IterX r p clock (done.map (fun e : MapEntry => e.born)).toArray c0) (IterX r p clock ((done ++ [en]).map (fun e : MapEntry => e.born)).toArray clock) l' → ∀ w', Heap W l' w' → (∀ w2 l2, Heap W l2 w2 → MapX p es clock ∈ l2 → IterX r p clock ((done ++ [en]).map (fun e : MapEntry => e.born)).toArray clock ∈ l2 → (Instr.entry (.pointer (some ⟨r, 0, none⟩))).run Try.prog w2 = .ok (.tuple #[en.key, en.val]) w2) → wpList Try.prog ops Q rest (a.put dst (.tuple #[.bool true, en.key, en.val])) w') :
    wpList Try.prog ops Q (⟨dst, .next x false, ty, pos, after, guard⟩ :: rest) a w := by
  obtain ⟨s1, s2, s3⟩ := (MapKept.stamped_iff es clock).1 hst
  have hne : es.toList.Nodup := (List.Pairwise.of_map (fun (e : MapEntry) => e.born) (fun x y h e => h (by rw [e])) s2)
  have hinj : ∀ x ∈ es.toList, ∀ y ∈ es.toList, x.born = y.born → x = y := fun x hx y hy e => by
    exact born_inj s2 hx hy e
  refine BigFrame.wpList_want hw fun K hK => ?_
  unfold Oper.wp execOp
  have hr0 : w.heap[r]? = some (.mapIter (some p) clock (done.map (fun e : MapEntry => e.born)).toArray c0) := H.ok _ m2
  have hm0 : w.heap[p]? = some (.map es clock) := H.ok _ m
  rcases run_next_at (P := Try.prog) w ty r p clock c0 (done.map (fun e : MapEntry => e.born)).toArray es clock hr0 hm0 s1 hc with ⟨hz, hrun⟩ | ⟨en, hen, w1, hw1, hrun⟩
  · simp only [hx, Sem.run_bind, hrun, Result.andThen_ok, Sem.run_pure]
    refine hK _ _ (h0 ?_)
    refine (List.perm_ext_iff_of_nodup hnd hne).2 fun y => ⟨hd y, fun hy => ?_⟩
    have : leftOf es (done.map (fun e : MapEntry => e.born)).toArray = #[] := Array.eq_empty_of_size_eq_zero hz
    unfold leftOf at this
    rw [Array.filter_eq_empty_iff] at this
    have := this y (by simpa using hy)
    simp only [List.contains_toArray, Bool.not_eq_eq_eq_not, Bool.not_true, Bool.not_eq_false, List.contains_iff_mem, List.mem_map] at this
    obtain ⟨z, hz1, hz2⟩ := this
    rw [← hinj z (hd z hz1) y hy hz2]
    exact hz1
  · simp only [hx, Sem.run_bind, hrun, Result.andThen_ok, Sem.run_pure]
    have hen' : en ∈ es.toList ∧ en ∉ done := by
      unfold leftOf at hen
      simp only [Array.toList_filter, List.mem_filter] at hen
      refine ⟨hen.1, fun hin => ?_⟩
      have := hen.2
      simp only [List.contains_toArray, Bool.not_eq_eq_eq_not, Bool.not_true, List.contains_eq_mem, decide_eq_false_iff_not, List.mem_map, not_exists, not_and] at this
      exact this en hin rfl
    have hpush : (done.map (fun e : MapEntry => e.born)).toArray.push en.born = ((done ++ [en]).map (fun e : MapEntry => e.born)).toArray := by simp
    rw [hpush] at hrun ⊢
    obtain ⟨l', hl'⟩ := Repl.of_mem (IterX r p clock ((done ++ [en]).map (fun e : MapEntry => e.born)).toArray clock) m2
    refine hK _ _ (h1 en hen'.1 hen'.2 l' hl' _ ?_ ?_)
    · have H1 : Heap W l w1 := by
        rcases hw1 with rfl | rfl
        · exact H
        · exact H.drew
      exact H1.upd hl' grown_setBlock (setBlock_at (H1.ok _ m2)) (.inl rfl)
    · intro w2 l2 H2 n1 n2
      refine run_entry_at w2 r p clock (done.map (fun e : MapEntry => e.born)).toArray es clock en ?_ (H2.ok _ n1) hen'.1 s2
      have := H2.ok _ n2
      rw [← hpush] at this
      exact this
/-- The same with one goal behind it. -/
theorem wpl_nextP {dst : Option Tmp} {ty : TypeId} {pos : String} {after : Array Edge} {guard : Option (Nat × Bool)} {x : Operand} {r p c0 : Nat} {es : Array MapEntry} {clock : Nat} {done : List MapEntry} {lf : MapEntry → List Thing} (hw : Region.wanted ⟨dst, .next x false, ty, pos, after, guard⟩ (yielded ops a.tmps) = true) (hx : a.eval x = .pointer (some ⟨r, 0, none⟩))
    (hst : MapKept.Stamped es clock) (hc : clock ≤ c0) (hd : ∀ y ∈ done, y ∈ es.toList) (hnd : done.Nodup) (H : Heap W l w) (m : MapX p es clock ∈ l) (m2 : IterX r p clock (done.map (fun e : MapEntry => e.born)).toArray c0 ∈ l)
    (hr : ∀ en : MapEntry, Repl l (IterX r p clock (done.map (fun e : MapEntry => e.born)).toArray c0) (IterX r p clock ((done ++ [en]).map (fun e : MapEntry => e.born)).toArray clock) (lf en))
    (h : (done.Perm es.toList → wpList Try.prog ops Q rest (a.put dst (.tuple #[.bool false])) w) ∧
      (∀ en ∈ es.toList, en ∉ done → ∀ w', Heap W (lf en) w' → (∀ w2 l2, Heap W l2 w2 → MapX p es clock ∈ l2 → IterX r p clock ((done ++ [en]).map (fun e : MapEntry => e.born)).toArray clock ∈ l2 → (Instr.entry (.pointer (some ⟨r, 0, none⟩))).run Try.prog w2 = .ok (.tuple #[en.key, en.val]) w2) → wpList Try.prog ops Q rest (a.put dst (.tuple #[.bool true, en.key, en.val])) w')) :
    wpList Try.prog ops Q (⟨dst, .next x false, ty, pos, after, guard⟩ :: rest) a w := by
  refine wpl_nextM hw hx hst hc hd hnd H m m2 h.1 fun en h1 h2 l' hl' w' H' he => ?_
  refine h.2 en h1 h2 w' (H'.perm ?_) he
  exact hl'.same (hr en)
theorem wpl_entryM {dst : Option Tmp} {ty : TypeId} {pos : String} {after : Array Edge} {guard : Option (Nat × Bool)} {x : Operand} {v u : Value} (hw : Region.wanted ⟨dst, .entry x, ty, pos, after, guard⟩ (yielded ops a.tmps) = true) (hx : a.eval x = v)
    (hr : (Instr.entry v).run Try.prog w = .ok u w) (h : wpList Try.prog ops Q rest (a.put dst u) w) : wpList Try.prog ops Q (⟨dst, .entry x, ty, pos, after, guard⟩ :: rest) a w := by
  refine BigFrame.wpList_want hw fun K hK => ?_
  unfold Oper.wp execOp
  simp only [hx, Sem.run_bind, hr, Result.andThen_ok, Sem.run_pure]
  exact hK _ _ h
end
end Go.Proofs.Ytgobnamhdkbbeaa

/- Ledgers as lists of lines: what each act answers, and makes of a ledger. -/
namespace Go.Proofs.Ytgobnamhdkbbeaa

structure Lin where
  (cr db cu lim deb : Int)
deriving DecidableEq
def Lin.rank (x : Lin) : Int := x.cu * 65536 + x.cr * 256 + x.db
/-- Is x the line of these ends? -/
def Lin.at (x : Lin) (cr db cu : Int) : Bool := x.cr == cr && x.db == db && x.cu == cu
theorem Lin.at_iff {x : Lin} {cr db cu : Int} : x.at cr db cu = true ↔ x.cr = cr ∧ x.db = db ∧ x.cu = cu := by simp [Lin.at, and_assoc]
theorem Lin.at_not {x : Lin} {cr db cu : Int} : x.at cr db cu = false ↔ ¬ (x.cr = cr ∧ x.db = db ∧ x.cu = cu) := by rw [← Lin.at_iff]; simp
structure Lgr where
  (P : List Int) (L : List Lin)
def lineOf (L : List Lin) (cr db cu : Int) : Option Lin := L.find? fun x => x.at cr db cu
def limOf (L : List Lin) (cr db cu : Int) : Int := ((lineOf L cr db cu).map (·.lim)).getD 0
def debOf (L : List Lin) (cr db cu : Int) : Int := ((lineOf L cr db cu).map (·.deb)).getD 0
def isLine (L : List Lin) (cr db cu : Int) : Bool := (lineOf L cr db cu).isSome
def addL (L : List Lin) (cr db cu n : Int) : List Lin := L.map fun x => if x.at cr db cu then { x with deb := x.deb + n } else x
def setL (L : List Lin) (x : Lin) : List Lin :=
  L.filter (fun y => decide (y.rank < x.rank)) ++ (if x.lim = 0 then [] else [x]) ++ L.filter (fun y => decide (x.rank < y.rank))
def insP (P : List Int) (p : Int) : List Int := P.filter (fun q => decide (q < p)) ++ p :: P.filter (fun q => decide (p < q))

structure LinOk (P : List Int) (x : Lin) : Prop where
  cr : x.cr ∈ P
  db : x.db ∈ P
  ne : x.cr ≠ x.db
  cu : 1 ≤ x.cu ∧ x.cu ≤ 8
  lim : 1 ≤ x.lim ∧ x.lim ≤ 1099511627776
  deb : 0 ≤ x.deb ∧ x.deb ≤ x.lim
structure Lgr.Good (S : Lgr) : Prop where
  par : S.P.Pairwise (· < ·)
  par1 : ∀ p ∈ S.P, 1 ≤ p ∧ p ≤ 16
  ord : S.L.Pairwise (fun x y => x.rank < y.rank)
  ok : ∀ x ∈ S.L, LinOk S.P x
  few : S.L.length ≤ 64
def Lgr.new : Lgr := ⟨[], []⟩
theorem Lgr.new_good : Lgr.new.Good := ⟨.nil, (fun _ h => by cases h), .nil, (fun _ h => by cases h), by simp [Lgr.new]⟩

/-! What the acts answer, and make. -/
def openE (S : Lgr) (p : Int) : Int := if p < 1 ∨ 16 < p then 1 else if p ∈ S.P then 8 else 0
def openS (S : Lgr) (p : Int) : Lgr := if openE S p = 0 then ⟨insP S.P p, S.L⟩ else S
def badEnds (cr db cu : Int) : Prop := cr < 1 ∨ 16 < cr ∨ db < 1 ∨ 16 < db ∨ cr = db ∨ cu < 1 ∨ 8 < cu
instance (cr db cu : Int) : Decidable (badEnds cr db cu) := by unfold badEnds; infer_instance
def trustE (S : Lgr) (cr db cu lim : Int) : Int :=
  if badEnds cr db cu ∨ lim < 0 ∨ 1099511627776 < lim then 1 else if cr ∉ S.P ∨ db ∉ S.P then 7 else if lim < debOf S.L cr db cu then 14
  else if isLine S.L cr db cu = false ∧ 0 < lim ∧ 64 ≤ S.L.length then 9 else 0
def trustS (S : Lgr) (cr db cu lim : Int) : Lgr := if trustE S cr db cu lim = 0 then ⟨S.P, setL S.L ⟨cr, db, cu, lim, debOf S.L cr db cu⟩⟩ else S
def roomOf (S : Lgr) (f t c : Int) : Int := debOf S.L f t c + limOf S.L t f c - debOf S.L t f c
def pushE (S : Lgr) (f t c n : Int) : Int := if n < 1 then 1 else if roomOf S f t c < n then 11 else 0
def fallOf (S : Lgr) (f t c n : Int) : Int := min n (debOf S.L f t c)
def pushS (S : Lgr) (f t c n : Int) : Lgr := if pushE S f t c n = 0 then ⟨S.P, addL (addL S.L f t c (-fallOf S f t c n)) t f c (n - fallOf S f t c n)⟩ else S
def forgE (S : Lgr) (cr db cu n : Int) : Int := if n < 1 then 1 else if isLine S.L cr db cu = false then 7 else if debOf S.L cr db cu < n then 14 else 0
def forgS (S : Lgr) (cr db cu n : Int) : Lgr := if forgE S cr db cu n = 0 then ⟨S.P, addL S.L cr db cu (-n)⟩ else S
def posL (L : List Lin) (p c : Int) : Int := (L.map fun x => (if x.cu = c ∧ x.cr = p then x.deb else 0) - (if x.cu = c ∧ x.db = p then x.deb else 0)).sum
def totL (L : List Lin) (c : Int) : Int := (L.map fun x => if x.cu = c then x.deb else 0).sum

/-! Ranks and ends. -/
section
variable {S : Lgr} {x y : Lin} {cr db cu : Int}
theorem rank_inj {a b c a' b' c' : Int} (h1 : 0 ≤ a ∧ a < 256) (h2 : 0 ≤ b ∧ b < 256) (h1' : 0 ≤ a' ∧ a' < 256) (h2' : 0 ≤ b' ∧ b' < 256) (h : c * 65536 + a * 256 + b = c' * 65536 + a' * 256 + b') : a = a' ∧ b = b' ∧ c = c' := by omega
theorem Lgr.Good.small (G : S.Good) (hx : x ∈ S.L) : (1 ≤ x.cr ∧ x.cr ≤ 16) ∧ (1 ≤ x.db ∧ x.db ≤ 16) := ⟨G.par1 _ (G.ok x hx).cr, G.par1 _ (G.ok x hx).db⟩
theorem Lgr.Good.rank_at (G : S.Good) (hx : x ∈ S.L) (h1 : 0 ≤ y.cr ∧ y.cr < 256) (h2 : 0 ≤ y.db ∧ y.db < 256) : x.rank = y.rank ↔ x.at y.cr y.db y.cu = true := by
  rw [Lin.at_iff]
  have := G.small hx
  constructor
  · intro h
    exact rank_inj (by omega) (by omega) h1 h2 h
  · rintro ⟨h1, h2, h3⟩
    unfold Lin.rank
    rw [h1, h2, h3]
theorem pw_inj : ∀ {L : List Lin}, L.Pairwise (fun x y => x.rank < y.rank) → ∀ {x y : Lin}, x ∈ L → y ∈ L → x.rank = y.rank → x = y
  | [], _, _, _, h, _, _ => by cases h
  | a :: L, h, x, y, hx, hy, e => by
    have h1 := List.pairwise_cons.1 h
    rcases List.mem_cons.1 hx with hx | hx <;> rcases List.mem_cons.1 hy with hy | hy
    · rw [hx, hy]
    · have := h1.1 _ hy; rw [hx] at e; omega
    · have := h1.1 _ hx; rw [hy] at e; omega
    · exact pw_inj h1.2 hx hy e
theorem Lgr.Good.uniq (G : S.Good) (hx : x ∈ S.L) (hy : y ∈ S.L) (h : x.rank = y.rank) : x = y := pw_inj G.ord hx hy h
/-- Two lists in order that have the same lines are the same. -/
theorem sorted_ext : ∀ {L M : List Lin}, L.Pairwise (fun x y => x.rank < y.rank) → M.Pairwise (fun x y => x.rank < y.rank) → (∀ z, z ∈ L ↔ z ∈ M) → L = M
  | [], [], _, _, _ => rfl
  | [], b :: M, _, _, h => by have := (h b).2 (List.mem_cons_self ..); cases this
  | a :: L, [], _, _, h => by have := (h a).1 (List.mem_cons_self ..); cases this
  | a :: L, b :: M, hL, hM, h => by
    have h1 := List.pairwise_cons.1 hL
    have h2 := List.pairwise_cons.1 hM
    have e : a = b := by
      rcases List.mem_cons.1 ((h a).1 (List.mem_cons_self ..)) with e | ha
      · exact e
      · rcases List.mem_cons.1 ((h b).2 (List.mem_cons_self ..)) with e | hb
        · exact e.symm
        · have := h1.1 _ hb; have := h2.1 _ ha; omega
    subst e
    congr 1
    refine sorted_ext h1.2 h2.2 fun z => ⟨fun hz => ?_, fun hz => ?_⟩
    · rcases List.mem_cons.1 ((h z).1 (List.mem_cons_of_mem _ hz)) with e | hz'
      · subst e; have := h1.1 _ hz; omega
      · exact hz'
    · rcases List.mem_cons.1 ((h z).2 (List.mem_cons_of_mem _ hz)) with e | hz'
      · subst e; have := h2.1 _ hz; omega
      · exact hz'
theorem lineOf_mem {L : List Lin} (h : lineOf L cr db cu = some x) : x ∈ L ∧ x.cr = cr ∧ x.db = db ∧ x.cu = cu := by
  refine ⟨List.mem_of_find?_eq_some h, ?_⟩
  have := List.find?_some h
  exact Lin.at_iff.1 this
theorem lineOf_none {L : List Lin} (h : lineOf L cr db cu = none) : ∀ x ∈ L, x.at cr db cu = false := by
  intro x hx
  have := List.find?_eq_none.1 h x hx
  simpa using this
theorem Lgr.Good.lineOf_iff (G : S.Good) : lineOf S.L cr db cu = some x ↔ x ∈ S.L ∧ x.at cr db cu = true := by
  constructor
  · intro h
    exact ⟨(lineOf_mem h).1, Lin.at_iff.2 (lineOf_mem h).2⟩
  · rintro ⟨hx, ha⟩
    cases h : lineOf S.L cr db cu with
    | none => rw [lineOf_none h x hx] at ha; cases ha
    | some y =>
      obtain ⟨hy, hy2⟩ := lineOf_mem h
      have hx2 := Lin.at_iff.1 ha
      congr 1
      refine G.uniq hy hx ?_
      unfold Lin.rank
      rw [hy2.1, hy2.2.1, hy2.2.2, hx2.1, hx2.2.1, hx2.2.2]
theorem isLine_iff {L : List Lin} : isLine L cr db cu = true ↔ ∃ x ∈ L, x.at cr db cu = true := by
  unfold isLine lineOf
  rw [List.find?_isSome]
theorem isLine_not {L : List Lin} : isLine L cr db cu = false ↔ ∀ x ∈ L, x.at cr db cu = false := by
  rw [Bool.eq_false_iff, ne_eq, isLine_iff]
  simp
theorem Lgr.Good.vals (G : S.Good) (hx : x ∈ S.L) : lineOf S.L x.cr x.db x.cu = some x ∧ limOf S.L x.cr x.db x.cu = x.lim ∧ debOf S.L x.cr x.db x.cu = x.deb ∧ isLine S.L x.cr x.db x.cu = true := by
  have h : lineOf S.L x.cr x.db x.cu = some x := G.lineOf_iff.2 ⟨hx, Lin.at_iff.2 ⟨rfl, rfl, rfl⟩⟩
  exact ⟨h, by simp [limOf, h], by simp [debOf, h], by simp [isLine, h]⟩
theorem Lgr.Good.noLine (h : isLine S.L cr db cu = false) : lineOf S.L cr db cu = none ∧ limOf S.L cr db cu = 0 ∧ debOf S.L cr db cu = 0 := by
  have h : lineOf S.L cr db cu = none := by unfold isLine at h; simpa using h
  exact ⟨h, by simp [limOf, h], by simp [debOf, h]⟩
/-- There is such a line; or there is none. -/
theorem Lgr.Good.split (G : S.Good) (cr db cu : Int) : (∃ x ∈ S.L, x.cr = cr ∧ x.db = db ∧ x.cu = cu ∧ lineOf S.L cr db cu = some x ∧ limOf S.L cr db cu = x.lim ∧ debOf S.L cr db cu = x.deb ∧ isLine S.L cr db cu = true) ∨
    ((∀ x ∈ S.L, x.at cr db cu = false) ∧ lineOf S.L cr db cu = none ∧ limOf S.L cr db cu = 0 ∧ debOf S.L cr db cu = 0 ∧ isLine S.L cr db cu = false) := by
  cases h : isLine S.L cr db cu with
  | true =>
    obtain ⟨x, hx, ha⟩ := isLine_iff.1 h
    obtain ⟨rfl, rfl, rfl⟩ := Lin.at_iff.1 ha
    have := G.vals hx
    exact .inl ⟨x, hx, rfl, rfl, rfl, this.1, this.2.1, this.2.2.1, rfl⟩
  | false => exact .inr ⟨isLine_not.1 h, (noLine h).1, (noLine h).2.1, (noLine h).2.2, rfl⟩
theorem Lgr.Good.nums (G : S.Good) (cr db cu : Int) : 0 ≤ debOf S.L cr db cu ∧ debOf S.L cr db cu ≤ limOf S.L cr db cu ∧ limOf S.L cr db cu ≤ 1099511627776 := by
  rcases G.split cr db cu with ⟨x, hx, _, _, _, _, h2, h3, _⟩ | ⟨_, _, h2, h3, _⟩
  · have := G.ok x hx
    rw [h2, h3]
    exact ⟨this.deb.1, this.deb.2, this.lim.2⟩
  · rw [h2, h3]; omega
theorem Lgr.Good.noSelf (G : S.Good) (p cu : Int) : isLine S.L p p cu = false := by
  rw [isLine_not]
  intro x hx
  rw [Lin.at_not]
  rintro ⟨h1, h2, _⟩
  exact (G.ok x hx).ne (h1.trans h2.symm)
theorem Lgr.Good.inP (G : S.Good) (h : isLine S.L cr db cu = true) : cr ∈ S.P ∧ db ∈ S.P := by
  obtain ⟨x, hx, ha⟩ := isLine_iff.1 h
  obtain ⟨rfl, rfl, rfl⟩ := Lin.at_iff.1 ha
  exact ⟨(G.ok x hx).cr, (G.ok x hx).db⟩
theorem Lgr.Good.room (G : S.Good) (f t c : Int) : 0 ≤ roomOf S f t c ∧ roomOf S f t c ≤ 2199023255552 := by
  have h1 := G.nums f t c
  have h2 := G.nums t f c
  unfold roomOf
  omega
/-- The room of the chapter: none of one's own, nor of who is not there. -/
theorem Lgr.Good.room0 (G : S.Good) {f t : Int} (c : Int) (h : f = t ∨ f ∉ S.P ∨ t ∉ S.P) : roomOf S f t c = 0 := by
  have h1 : isLine S.L f t c = false := by
    rcases h with rfl | h | h
    · exact G.noSelf f c
    · cases hl : isLine S.L f t c with
      | false => rfl
      | true => exact absurd (G.inP hl).1 h
    · cases hl : isLine S.L f t c with
      | false => rfl
      | true => exact absurd (G.inP hl).2 h
  have h2 : isLine S.L t f c = false := by
    rcases h with rfl | h | h
    · exact G.noSelf f c
    · cases hl : isLine S.L t f c with
      | false => rfl
      | true => exact absurd (G.inP hl).2 h
    · cases hl : isLine S.L t f c with
      | false => rfl
      | true => exact absurd (G.inP hl).1 h
  unfold roomOf
  rw [(noLine h1).2.2, (noLine h2).2.1, (noLine h2).2.2]
  rfl

/-! Keeping. -/
theorem insP_mem {P : List Int} {p q : Int} : q ∈ insP P p ↔ q ∈ P ∨ q = p := by
  unfold insP
  simp only [List.mem_append, List.mem_filter, List.mem_cons, decide_eq_true_eq]
  constructor
  · rintro (⟨h, _⟩ | rfl | ⟨h, _⟩)
    · exact .inl h
    · exact .inr rfl
    · exact .inl h
  · rintro (h | rfl)
    · rcases Int.lt_trichotomy q p with h' | rfl | h'
      · exact .inl ⟨h, h'⟩
      · exact .inr (.inl rfl)
      · exact .inr (.inr ⟨h, h'⟩)
    · exact .inr (.inl rfl)
theorem insP_sorted {P : List Int} (h : P.Pairwise (· < ·)) (p : Int) : (insP P p).Pairwise (· < ·) := by
  unfold insP
  rw [List.pairwise_append, List.pairwise_cons]
  refine ⟨h.filter _, ⟨?_, h.filter _⟩, ?_⟩
  · intro q hq
    have := (List.mem_filter.1 hq).2
    simpa using this
  · intro a ha b hb
    have h1 : a < p := by simpa using (List.mem_filter.1 ha).2
    rcases List.mem_cons.1 hb with rfl | hb
    · exact h1
    · have h2 : p < b := by simpa using (List.mem_filter.1 hb).2
      omega
theorem openE_ok {p : Int} (h : openE S p = 0) : (1 ≤ p ∧ p ≤ 16) ∧ p ∉ S.P := by
  unfold openE at h
  split at h
  · omega
  · split at h
    · omega
    · exact ⟨by omega, by assumption⟩
theorem Lgr.Good.open (G : S.Good) (p : Int) : (openS S p).Good := by
  unfold openS
  split
  · rename_i h
    obtain ⟨h1, h2⟩ := openE_ok h
    refine ⟨insP_sorted G.par p, fun q hq => ?_, G.ord, fun x hx => ?_, G.few⟩
    · rcases insP_mem.1 hq with hq | rfl
      · exact G.par1 q hq
      · exact h1
    · have := G.ok x hx
      exact ⟨insP_mem.2 (.inl this.cr), insP_mem.2 (.inl this.db), this.ne, this.cu, this.lim, this.deb⟩
  · exact G
theorem setL_mem {L : List Lin} {x z : Lin} : z ∈ setL L x ↔ (z ∈ L ∧ z.rank ≠ x.rank) ∨ (x.lim ≠ 0 ∧ z = x) := by
  unfold setL
  simp only [List.mem_append, List.mem_filter, decide_eq_true_eq]
  constructor
  · rintro ((⟨h, h'⟩ | h) | ⟨h, h'⟩)
    · exact .inl ⟨h, by omega⟩
    · split at h
      · cases h
      · exact .inr ⟨by assumption, by simpa using h⟩
    · exact .inl ⟨h, by omega⟩
  · rintro (⟨h, h'⟩ | ⟨h, rfl⟩)
    · rcases Int.lt_or_gt_of_ne h' with h' | h'
      · exact .inl (.inl ⟨h, h'⟩)
      · exact .inr ⟨h, h'⟩
    · exact .inl (.inr (by rw [if_neg h]; simp))
theorem setL_sorted {L : List Lin} (h : L.Pairwise (fun x y => x.rank < y.rank)) (x : Lin) : (setL L x).Pairwise (fun x y => x.rank < y.rank) := by
  unfold setL
  rw [List.pairwise_append, List.pairwise_append]
  refine ⟨⟨h.filter _, ?_, ?_⟩, h.filter _, ?_⟩
  · split <;> simp
  · intro a ha b hb
    have h1 : a.rank < x.rank := by simpa using (List.mem_filter.1 ha).2
    split at hb
    · cases hb
    · obtain rfl : b = x := by simpa using hb
      exact h1
  · intro a ha b hb
    have h2 : x.rank < b.rank := by simpa using (List.mem_filter.1 hb).2
    rcases List.mem_append.1 ha with ha | ha
    · have h1 : a.rank < x.rank := by simpa using (List.mem_filter.1 ha).2
      omega
    · split at ha
      · cases ha
      · obtain rfl : a = x := by simpa using ha
        exact h2
theorem filter3_len (L : List Lin) (r : Int) : (L.filter (fun y => decide (y.rank < r))).length + (L.filter (fun y => decide (r < y.rank))).length + (L.filter (fun y => decide (y.rank = r))).length = L.length := by
  induction L with
  | nil => rfl
  | cons a L ih =>
    simp only [List.filter_cons]
    rcases Int.lt_trichotomy a.rank r with h | h | h
    · simp [h, show ¬ r < a.rank by omega, show ¬ a.rank = r by omega]; omega
    · simp [h]; omega
    · simp [h, show ¬ a.rank < r by omega, show ¬ a.rank = r by omega]; omega
theorem setL_len (L : List Lin) (x : Lin) : (setL L x).length + (L.filter (fun y => decide (y.rank = x.rank))).length = L.length + (if x.lim = 0 then 0 else 1) := by
  have := filter3_len L x.rank
  unfold setL
  simp only [List.length_append]
  split
  · simp; omega
  · simp; omega
theorem trustE_ok {lim : Int} (h : trustE S cr db cu lim = 0) : ¬ badEnds cr db cu ∧ 0 ≤ lim ∧ lim ≤ 1099511627776 ∧ cr ∈ S.P ∧ db ∈ S.P ∧ debOf S.L cr db cu ≤ lim ∧ ¬ (isLine S.L cr db cu = false ∧ 0 < lim ∧ 64 ≤ S.L.length) := by
  unfold trustE at h
  split at h
  · omega
  · rename_i h1
    split at h
    · omega
    · rename_i h2
      split at h
      · omega
      · split at h
        · omega
        · rename_i h4
          simp only [not_or, Decidable.not_not] at h1 h2
          exact ⟨h1.1, by omega, by omega, h2.1, h2.2, by omega, h4⟩
theorem Lgr.Good.trust (G : S.Good) (cr db cu lim : Int) : (trustS S cr db cu lim).Good := by
  unfold trustS
  split
  · rename_i h
    obtain ⟨h1, h2, h3, h4, h5, h6, h7⟩ := trustE_ok h
    have hc := G.par1 cr h4
    have hd := G.par1 db h5
    have hn := G.nums cr db cu
    refine ⟨G.par, G.par1, setL_sorted G.ord _, fun x hx => ?_, ?_⟩
    · rcases setL_mem.1 hx with ⟨hx, _⟩ | ⟨hl, rfl⟩
      · exact G.ok x hx
      · unfold badEnds at h1
        exact ⟨h4, h5, (by simp only; omega), (by simp only; omega), (by simp only at *; omega), (by simp only at *; omega)⟩
    · have hlen := setL_len S.L ⟨cr, db, cu, lim, debOf S.L cr db cu⟩
      have hf := G.few
      cases hl : isLine S.L cr db cu with
      | false =>
        simp only at hlen ⊢
        by_cases h0 : lim = 0
        · rw [if_pos h0] at hlen; omega
        · rw [if_neg h0] at hlen
          have : ¬ (64 ≤ S.L.length) := fun h' => h7 ⟨hl, by omega, h'⟩
          omega
      | true =>
        obtain ⟨x, hx, ha⟩ := isLine_iff.1 hl
        have hr : x.rank = (⟨cr, db, cu, lim, debOf S.L cr db cu⟩ : Lin).rank := (G.rank_at hx (by simp only; omega) (by simp only; omega)).2 ha
        have : 0 < (S.L.filter (fun y => decide (y.rank = (⟨cr, db, cu, lim, debOf S.L cr db cu⟩ : Lin).rank))).length := List.length_pos_of_mem (List.mem_filter.2 ⟨hx, by simpa using hr⟩)
        simp only at hlen this ⊢
        split at hlen <;> omega
  · exact G
theorem addL_len (L : List Lin) (cr db cu n : Int) : (addL L cr db cu n).length = L.length := by simp [addL]
theorem addL_ranks (L : List Lin) (cr db cu n : Int) : (addL L cr db cu n).map (·.rank) = L.map (·.rank) := by
  unfold addL
  rw [List.map_map]
  refine List.map_congr_left fun x _ => ?_
  simp only [Function.comp]
  split <;> rfl
theorem addL_mem {L : List Lin} {n : Int} {z : Lin} (h : z ∈ addL L cr db cu n) : ∃ x ∈ L, z.cr = x.cr ∧ z.db = x.db ∧ z.cu = x.cu ∧ z.lim = x.lim ∧ z.deb = x.deb + (if x.at cr db cu then n else 0) := by
  obtain ⟨x, hx, rfl⟩ := List.mem_map.1 h
  refine ⟨x, hx, ?_⟩
  by_cases ha : x.at cr db cu = true
  · simp [ha]
  · simp [ha]
theorem Lgr.Good.add (G : S.Good) {n : Int} (h0 : 0 ≤ debOf S.L cr db cu + n) (h1 : debOf S.L cr db cu + n ≤ limOf S.L cr db cu) : (⟨S.P, addL S.L cr db cu n⟩ : Lgr).Good := by
  refine ⟨G.par, G.par1, ?_, fun z hz => ?_, by rw [addL_len]; exact G.few⟩
  · have : ((addL S.L cr db cu n).map (·.rank)).Pairwise (· < ·) := by rw [addL_ranks, List.pairwise_map]; exact G.ord
    rwa [List.pairwise_map] at this
  · obtain ⟨x, hx, e1, e2, e3, e4, e5⟩ := addL_mem hz
    have ok := G.ok x hx
    refine ⟨by rw [e1]; exact ok.cr, by rw [e2]; exact ok.db, by rw [e1, e2]; exact ok.ne, by rw [e3]; exact ok.cu, by rw [e4]; exact ok.lim, ?_⟩
    rw [e4, e5]
    split
    · rename_i ha
      obtain ⟨rfl, rfl, rfl⟩ := Lin.at_iff.1 ha
      have := G.vals hx
      rw [this.2.2.1] at h0 h1
      rw [this.2.1] at h1
      exact ⟨h0, h1⟩
    · have := ok.deb; omega
theorem lineOf_add (L : List Lin) (cr db cu n a b c : Int) : lineOf (addL L cr db cu n) a b c = (lineOf L a b c).map fun x => if x.at cr db cu then { x with deb := x.deb + n } else x := by
  unfold lineOf addL
  rw [List.find?_map]
  congr 1
  refine congrArg (fun f => List.find? f L) ?_
  funext x
  simp only [Function.comp]
  split <;> rfl
theorem limOf_add (L : List Lin) (cr db cu n a b c : Int) : limOf (addL L cr db cu n) a b c = limOf L a b c := by
  unfold limOf
  rw [lineOf_add, Option.map_map]
  congr 2
  funext x
  simp only [Function.comp]
  split <;> rfl
theorem isLine_add (L : List Lin) (cr db cu n a b c : Int) : isLine (addL L cr db cu n) a b c = isLine L a b c := by
  unfold isLine
  rw [lineOf_add]
  simp
theorem debOf_add (L : List Lin) (cr db cu n a b c : Int) : debOf (addL L cr db cu n) a b c = debOf L a b c + (if isLine L a b c = true ∧ a = cr ∧ b = db ∧ c = cu then n else 0) := by
  unfold debOf
  rw [lineOf_add]
  cases h : lineOf L a b c with
  | none => simp [isLine, h]
  | some x =>
    obtain ⟨_, rfl, rfl, rfl⟩ := lineOf_mem h
    simp only [Option.map_some, Option.getD_some, isLine, h, Option.isSome_some, true_and]
    by_cases ha : x.at cr db cu = true
    · rw [if_pos ha, if_pos (Lin.at_iff.1 ha)]
    · rw [if_neg ha, if_neg (fun h' => ha (Lin.at_iff.2 h'))]; simp
theorem addL_zero (L : List Lin) (cr db cu : Int) : addL L cr db cu 0 = L := by
  unfold addL
  conv => rhs; rw [← List.map_id L]
  refine List.map_congr_left fun x _ => ?_
  simp
theorem addL_none {L : List Lin} {n : Int} (h : isLine L cr db cu = false) : addL L cr db cu n = L := by
  unfold addL
  conv => rhs; rw [← List.map_id L]
  refine List.map_congr_left fun x hx => ?_
  simp [isLine_not.1 h x hx]
/-- The parts of a push. -/
theorem Lgr.Good.push0 (G : S.Good) {f t c n : Int} (h : pushE S f t c n = 0) : 1 ≤ n ∧ n ≤ roomOf S f t c ∧ f ≠ t ∧ f ∈ S.P ∧ t ∈ S.P := by
  unfold pushE at h
  split at h
  · omega
  · split at h
    · omega
    · refine ⟨by omega, by omega, ?_, ?_, ?_⟩
      · intro e; have := G.room0 c (.inl e); omega
      · refine Decidable.byContradiction fun e => ?_
        have := G.room0 (t := t) c (.inr (.inl e)); omega
      · refine Decidable.byContradiction fun e => ?_
        have := G.room0 (f := f) c (.inr (.inr e)); omega
theorem Lgr.Good.pushA (G : S.Good) {f t c n : Int} (h : pushE S f t c n = 0) : (⟨S.P, addL S.L f t c (-fallOf S f t c n)⟩ : Lgr).Good := by
  obtain ⟨h1, h2, h3, _⟩ := G.push0 h
  have hn := G.nums f t c
  refine G.add ?_ ?_
  · unfold fallOf; omega
  · unfold fallOf; omega
theorem Lgr.Good.push (G : S.Good) (f t c n : Int) : (pushS S f t c n).Good := by
  unfold pushS
  split
  · rename_i h
    obtain ⟨h1, h2, h3, _⟩ := G.push0 h
    have hn := G.nums t f c
    have hn2 := G.nums f t c
    refine (G.pushA h).add ?_ ?_
    · simp only [debOf_add]
      rw [if_neg (fun e => h3 e.2.1.symm)]
      unfold fallOf; omega
    · simp only [debOf_add, limOf_add]
      rw [if_neg (fun e => h3 e.2.1.symm)]
      unfold fallOf roomOf at *; omega
  · exact G
theorem Lgr.Good.forg (G : S.Good) (cr db cu n : Int) : (forgS S cr db cu n).Good := by
  unfold forgS
  split
  · rename_i h
    have hn := G.nums cr db cu
    unfold forgE at h
    split at h
    · omega
    · split at h
      · omega
      · split at h
        · omega
        · refine G.add ?_ ?_ <;> omega
  · exact G
end
end Go.Proofs.Ytgobnamhdkbbeaa
