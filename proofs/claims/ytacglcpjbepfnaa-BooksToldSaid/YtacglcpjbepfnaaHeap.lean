/- Memory as a list of things: 'Heap W l w': behind W nothing of W has changed, and the things of l lie in w, apart from each other, in blocks of their own. Worlds stay variables; each step hands on one such fact. -/
import Derived.Test.YtacglcpjbepfnaaRow
namespace Go.Proofs.Ytacglcpjbepfnaa
open Go.RowKit
set_option linter.unusedVariables false
set_option linter.unusedSimpArgs false

/-- A thing: the block where it lies (if any), and what is true of it there. -/
structure Thing where
  fp : Option Nat
  ok : World → Prop
  loc : ∀ w w' : World, (∀ k, fp = some k → w'.heap[k]? = w.heap[k]?) → ok w → ok w'
/-- A block known whole. -/
def Cel (p : Nat) (c : Array Value) (t : TypeId) : Thing := ⟨some p, fun w => blk w p = some (.cells c t (0, 0)), fun _ _ h ho => (h p rfl).trans ho⟩
/-- A row of a slice's value v: nil, or the head of a block. -/
def RowT (e size : Nat) (v : Value) (n : Nat) (xs : List Value) : Thing := ⟨v.ownBlock, fun w => w.ownsRow 0 e size v n xs, fun w w' h ho => by
  obtain ⟨h1, h2⟩ := ho
  refine ⟨h1, ?_⟩
  rcases h2 with h2 | ⟨g, cap, cur, rfl, hg, hh, r⟩
  · exact .inl h2
  · exact .inr ⟨g, cap, cur, rfl, hg, by rw [h g rfl]; exact hh, r⟩⟩
/-- A row that lies at the head of block g. -/
def Sl (g e size n c : Nat) (xs : List Value) : Thing := RowT e size (.slice (some ⟨g, 0, none⟩) n c) n xs

structure Heap (W : World) (l : List Thing) (w : World) : Prop where
  low : Below W.heap.size W w
  ok : ∀ x ∈ l, x.ok w
  fp : ∀ x ∈ l, ∀ k, x.fp = some k → W.heap.size ≤ k ∧ k < w.heap.size
  apart : l.Pairwise fun x y => ∀ k, x.fp = some k → y.fp ≠ some k
/-- l' is l with x' in the place of x. -/
inductive Repl : List Thing → Thing → Thing → List Thing → Prop
  | here {x x' : Thing} {l : List Thing} : Repl (x :: l) x x' (x' :: l)
  | there {x x' y : Thing} {l l' : List Thing} : Repl l x x' l' → Repl (y :: l) x x' (y :: l')
/-- r is l without x. -/
inductive Pull : List Thing → Thing → List Thing → Prop
  | here {x : Thing} {l : List Thing} : Pull (x :: l) x l
  | there {x y : Thing} {l l' : List Thing} : Pull l x l' → Pull (y :: l) x (y :: l')
theorem Pull.perm {l r : List Thing} {x : Thing} (h : Pull l x r) : l.Perm (x :: r) := by
  induction h with
  | here => exact .refl _
  | there _ ih => exact (ih.cons _).trans (.swap _ _ _)
theorem Repl.perm {l l' : List Thing} {x x' : Thing} (h : Repl l x x' l') : ∃ r, l.Perm (x :: r) ∧ l'.Perm (x' :: r) := by
  induction h with
  | here => exact ⟨_, .refl _, .refl _⟩
  | there h ih =>
    obtain ⟨r, h1, h2⟩ := ih
    exact ⟨_, (h1.cons _).trans (.swap _ _ _), (h2.cons _).trans (.swap _ _ _)⟩
theorem Repl.mem {l l' : List Thing} {x x' : Thing} (h : Repl l x x' l') : x ∈ l := by
  obtain ⟨r, h1, _⟩ := h.perm
  exact h1.mem_iff.2 (List.mem_cons_self ..)

section
variable {W w w' : World} {l l' r : List Thing} {x x' : Thing}
theorem Heap.start (W : World) : Heap W [] W := ⟨Below.refl _ _, (fun _ h => by cases h), (fun _ h => by cases h), .nil⟩
theorem Heap.perm (H : Heap W l w) (h : l.Perm l') : Heap W l' w :=
  ⟨H.low, fun x hx => H.ok x (h.mem_iff.2 hx), fun x hx => H.fp x (h.mem_iff.2 hx), (h.pairwise_iff (fun {x y} hxy k hy hx => hxy k hx hy)).1 H.apart⟩
theorem Heap.pull (H : Heap W l w) (h : Pull l x r) : Heap W (x :: r) w := H.perm h.perm
theorem Heap.tail (H : Heap W (x :: l) w) : Heap W l w := ⟨H.low, fun x hx => H.ok x (List.mem_cons_of_mem _ hx), fun x hx => H.fp x (List.mem_cons_of_mem _ hx), (List.pairwise_cons.1 H.apart).2⟩
theorem Heap.drop (H : Heap W l w) (h : Pull l x r) : Heap W r w := (H.pull h).tail
theorem Heap.nothing (H : Heap W l w) : Heap W [] w := ⟨H.low, (fun _ h => by cases h), (fun _ h => by cases h), .nil⟩
theorem Heap.top2 {y : Thing} {s : List Thing} (H : Heap W l w) (h1 : Pull l x r) (h2 : Pull r y s) : Heap W (x :: y :: s) w := H.perm (h1.perm.trans (h2.perm.cons _))
theorem Heap.top3 {y u : Thing} {s v : List Thing} (H : Heap W l w) (h1 : Pull l x r) (h2 : Pull r y s) (h3 : Pull s u v) : Heap W (x :: y :: u :: v) w := H.perm (h1.perm.trans ((h2.perm.trans (h3.perm.cons _)).cons _))
/-- The first thing turned into another one, of the same block or a new one. -/
theorem Heap.head (H : Heap W (x :: l) w) (hg : w.grownBy w' x.fp) (hok : x'.ok w') (hf : x'.fp = x.fp ∨ ∀ k, x'.fp = some k → w.heap.size ≤ k ∧ k < w'.heap.size) : Heap W (x' :: l) w' := by
  have hap := List.pairwise_cons.1 H.apart
  refine ⟨H.low.grown hg H.low.size (fun k hk => (H.fp x (List.mem_cons_self ..) k hk).1), ?_, ?_, List.pairwise_cons.2 ⟨?_, hap.2⟩⟩
  · intro y hy
    rcases List.mem_cons.1 hy with rfl | hy
    · exact hok
    · refine y.loc w w' (fun k hk => hg.block k (H.fp y (List.mem_cons_of_mem _ hy) k hk).2 (fun e => hap.1 y hy k e.symm hk)) (H.ok y (List.mem_cons_of_mem _ hy))
  · intro y hy k hk
    rcases List.mem_cons.1 hy with rfl | hy
    · rcases hf with hf | hf
      · have := H.fp x (List.mem_cons_self ..) k (hf ▸ hk); exact ⟨this.1, Nat.lt_of_lt_of_le this.2 hg.size⟩
      · exact ⟨Nat.le_trans H.low.size (hf k hk).1, (hf k hk).2⟩
    · have := H.fp y (List.mem_cons_of_mem _ hy) k hk; exact ⟨this.1, Nat.lt_of_lt_of_le this.2 hg.size⟩
  · intro y hy k hk hk'
    rcases hf with hf | hf
    · exact hap.1 y hy k (hf ▸ hk) hk'
    · have := H.fp y (List.mem_cons_of_mem _ hy) k hk'; have := hf k hk; omega
theorem Heap.upd (H : Heap W l w) (h : Repl l x x' l') (hg : w.grownBy w' x.fp) (hok : x'.ok w') (hf : x'.fp = x.fp ∨ ∀ k, x'.fp = some k → w.heap.size ≤ k ∧ k < w'.heap.size) : Heap W l' w' := by
  obtain ⟨r, h1, h2⟩ := h.perm
  exact ((H.perm h1).head hg hok hf).perm h2.symm
theorem Heap.add (H : Heap W l w) (hg : w.grownBy w' none) (hok : x.ok w') (hf : ∀ k, x.fp = some k → w.heap.size ≤ k ∧ k < w'.heap.size) : Heap W (x :: l) w' := by
  have H0 : Heap W ((⟨none, fun _ => True, fun _ _ _ h => h⟩ : Thing) :: l) w := ⟨H.low, fun y hy => by
      rcases List.mem_cons.1 hy with rfl | hy
      · trivial
      · exact H.ok y hy, fun y hy k hk => by
      rcases List.mem_cons.1 hy with rfl | hy
      · cases hk
      · exact H.fp y hy k hk, List.pairwise_cons.2 ⟨(fun _ _ _ h => by cases h), H.apart⟩⟩
  exact H0.head hg hok (.inr hf)
theorem Heap.grow (H : Heap W l w) (h : Ext w w') : Heap W l w' :=
  ⟨Below.trans H.low (Below.mono h H.low.size), fun x hx => x.loc w w' (fun k hk => h.block k (H.fp x hx k hk).2) (H.ok x hx), fun x hx k hk => ⟨(H.fp x hx k hk).1, Nat.lt_of_lt_of_le (H.fp x hx k hk).2 h.size⟩, H.apart⟩
theorem Heap.alloc (H : Heap W l w) (c : Array Value) (t : TypeId) : Heap W (Cel w.heap.size c t :: l) (w.alloc (.cells c t)) :=
  H.add ⟨rfl, rfl, rfl, by simp, fun k hk _ => Below.heap_alloc _ _ _ hk⟩ (blk_here rfl) (fun k hk => by cases hk; exact ⟨Nat.le_refl _, by simp⟩)
theorem Heap.drew (H : Heap W l w) : Heap W l w.drew := H.grow (Ext.refl w).drew
theorem Heap.blk (H : Heap W l w) {p : Nat} {c : Array Value} {t : TypeId} (m : Cel p c t ∈ l) : blk w p = some (.cells c t (0, 0)) := H.ok _ m
theorem Heap.rd (H : Heap W l w) {a : Option Addr} {xs : List Value} (R : Rd W a xs) : Rd w a xs := R.below H.low
theorem grown_setBlk {w : World} {p : Nat} {c : Array Value} : w.grownBy (setBlk w p c) (some p) :=
  ⟨rfl, rfl, rfl, by rw [size_setBlk]; exact Nat.le_refl _, fun k _ hk => setBlk_block w p c k (fun e => hk (by rw [e]))⟩
theorem Heap.set (H : Heap W l w) {p : Nat} {c c' : Array Value} {t : TypeId} (h : Repl l (Cel p c t) (Cel p c' t) l') : Heap W l' (setBlk w p c') :=
  H.upd h grown_setBlk (setBlk_same w p c' c t (0, 0) (H.blk h.mem)) (.inl rfl)
theorem RowT.sl {e size n : Nat} {v : Value} {xs : List Value} (h : (RowT e size v n xs).ok w) (hn : 0 < n) : ∃ g c, v = .slice (some ⟨g, 0, none⟩) n c ∧ n ≤ c ∧ c ≤ maxLen := by
  obtain ⟨_, ⟨_, rfl⟩ | ⟨g, c, cur, rfl, _, _, h1, h2, _⟩⟩ := h
  · omega
  · exact ⟨g, c, rfl, h1, h2⟩
theorem Heap.slRd (H : Heap W l w) {g e size n c : Nat} {xs : List Value} (m : Sl g e size n c xs ∈ l) : Rd w (some ⟨g, 0, none⟩) xs := by
  obtain ⟨h1, ⟨h, _⟩ | ⟨g', cap, cur, h, _, hh, _, _, _, ht⟩⟩ := H.ok _ m
  · cases h
  · cases h
    intro i hi
    refine ⟨g, 0, rfl, ?_⟩
    have hi' : i < (cur.toList.take (n * size)).length := by rw [ht]; exact hi
    have hlt : i < cur.size := by simp at hi'; omega
    subst ht
    simp only [World.cell?, Nat.zero_add, hh]
    simp
end

theorem wpQuiet_mono {P : Program} {ops : Array Oper} {C : World → Prop} {K K' : Act → Prop} (hk : ∀ a, K a → K' a) : ∀ (l : List Oper) (a : Act), wpQuiet P ops C K l a → wpQuiet P ops C K' l a
  | [], _, h => hk _ h
  | o :: l, a, h => by
    unfold wpQuiet at *
    split
    · rename_i hw; rw [if_pos hw] at h; exact Oper.quiet_mono (fun a' => wpQuiet_mono hk l a') h
    · rename_i hw; rw [if_neg hw] at h; exact wpQuiet_mono hk l _ h
section
variable {ops : Array Oper} {rest : List Oper} {o : Oper} {a : Act} {w W : World} {l : List Thing} {Q : Exit → Act → World → Prop} {T n : Nat} {z : Array Value}
theorem wpl_loadCH {dst : Option Tmp} {ty : TypeId} {pos : String} {after : Array Edge} {guard : Option (Nat × Bool)} {x : Operand} {b off : Nat} (CT : CellTy T) (hw : Region.wanted ⟨dst, .load T x, ty, pos, after, guard⟩ (yielded ops a.tmps) = true) (hx : a.eval x = .pointer (some ⟨b, off, none⟩))
    (H : Heap W l w) {c : Array Value} {v : Value} {t : TypeId} (m : Cel b c t ∈ l) (hv : c[off]? = some v) (h : wpList Try.prog ops Q rest (a.put dst v) w) : wpList Try.prog ops Q (⟨dst, .load T x, ty, pos, after, guard⟩ :: rest) a w :=
  wpl_loadC CT hw hx (H.blk m) hv h
theorem wpl_loadRH {dst : Option Tmp} {ty : TypeId} {pos : String} {after : Array Edge} {guard : Option (Nat × Bool)} {x : Operand} {b off : Nat} (RT : RowTy T n z) (hw : Region.wanted ⟨dst, .load T x, ty, pos, after, guard⟩ (yielded ops a.tmps) = true) (hx : a.eval x = .pointer (some ⟨b, off, none⟩))
    (H : Heap W l w) {c c1 : Array Value} {t : TypeId} (m : Cel b c t ∈ l) (hn : off + n ≤ c.size) (he : c.extract off (off + n) = c1) (h : wpList Try.prog ops Q rest (a.put dst (.agg c1)) w) : wpList Try.prog ops Q (⟨dst, .load T x, ty, pos, after, guard⟩ :: rest) a w :=
  wpl_loadR RT hw hx (H.blk m) hn he h
theorem wpl_storeCH {dst : Option Tmp} {ty : TypeId} {pos : String} {after : Array Edge} {guard : Option (Nat × Bool)} {x y : Operand} {b off : Nat} {v : Value} (CT : CellTy T) (hw : Region.wanted ⟨dst, .store T x y, ty, pos, after, guard⟩ (yielded ops a.tmps) = true) (hx : a.eval x = .pointer (some ⟨b, off, none⟩)) (hy : a.eval y = v) (hc : v.cells = #[v] ∧ v.oneCell' = true)
    {c c1 : Array Value} {t : TypeId} {l' : List Thing} (H : Heap W l w) (m : Cel b c t ∈ l) (hn : off < c.size) (hs : c.setIfInBounds off v = c1) (r : Repl l (Cel b c t) (Cel b c1 t) l')
    (h : ∀ w', Heap W l' w' → wpList Try.prog ops Q rest (a.put dst undef) w') : wpList Try.prog ops Q (⟨dst, .store T x y, ty, pos, after, guard⟩ :: rest) a w :=
  wpl_storeC CT hw hx hy hc (H.blk m) hn hs ⟨⟨_, H.blk m⟩, rfl⟩ (h _ (H.set r))
theorem wpl_storeIH {dst : Option Tmp} {ty : TypeId} {pos : String} {after : Array Edge} {guard : Option (Nat × Bool)} {x y : Operand} {b off : Nat} {k0 : IntKind} {n0 : Int} (CT : CellTy T) (hw : Region.wanted ⟨dst, .store T x y, ty, pos, after, guard⟩ (yielded ops a.tmps) = true) (hx : a.eval x = .pointer (some ⟨b, off, none⟩)) (hy : a.eval y = .int k0 n0)
    {c c1 : Array Value} {t : TypeId} {l' : List Thing} (H : Heap W l w) (m : Cel b c t ∈ l) (hn : off < c.size) (hs : c.setIfInBounds off (.int k0 n0) = c1) (r : Repl l (Cel b c t) (Cel b c1 t) l')
    (h : ∀ w', Heap W l' w' → wpList Try.prog ops Q rest (a.put dst undef) w') : wpList Try.prog ops Q (⟨dst, .store T x y, ty, pos, after, guard⟩ :: rest) a w :=
  wpl_storeCH CT hw hx hy ⟨rfl, rfl⟩ H m hn hs r h
theorem wpl_storeBH {dst : Option Tmp} {ty : TypeId} {pos : String} {after : Array Edge} {guard : Option (Nat × Bool)} {x y : Operand} {b off : Nat} {b0 : Bool} (CT : CellTy T) (hw : Region.wanted ⟨dst, .store T x y, ty, pos, after, guard⟩ (yielded ops a.tmps) = true) (hx : a.eval x = .pointer (some ⟨b, off, none⟩)) (hy : a.eval y = .bool b0)
    {c c1 : Array Value} {t : TypeId} {l' : List Thing} (H : Heap W l w) (m : Cel b c t ∈ l) (hn : off < c.size) (hs : c.setIfInBounds off (.bool b0) = c1) (r : Repl l (Cel b c t) (Cel b c1 t) l')
    (h : ∀ w', Heap W l' w' → wpList Try.prog ops Q rest (a.put dst undef) w') : wpList Try.prog ops Q (⟨dst, .store T x y, ty, pos, after, guard⟩ :: rest) a w :=
  wpl_storeCH CT hw hx hy ⟨rfl, rfl⟩ H m hn hs r h
theorem wpl_storeSH {dst : Option Tmp} {ty : TypeId} {pos : String} {after : Array Edge} {guard : Option (Nat × Bool)} {x y : Operand} {b off : Nat} {a0 : Option Addr} {n0 c0 : Nat} (CT : CellTy T) (hw : Region.wanted ⟨dst, .store T x y, ty, pos, after, guard⟩ (yielded ops a.tmps) = true) (hx : a.eval x = .pointer (some ⟨b, off, none⟩)) (hy : a.eval y = .slice a0 n0 c0)
    {c c1 : Array Value} {t : TypeId} {l' : List Thing} (H : Heap W l w) (m : Cel b c t ∈ l) (hn : off < c.size) (hs : c.setIfInBounds off (.slice a0 n0 c0) = c1) (r : Repl l (Cel b c t) (Cel b c1 t) l')
    (h : ∀ w', Heap W l' w' → wpList Try.prog ops Q rest (a.put dst undef) w') : wpList Try.prog ops Q (⟨dst, .store T x y, ty, pos, after, guard⟩ :: rest) a w :=
  wpl_storeCH CT hw hx hy ⟨rfl, rfl⟩ H m hn hs r h
theorem wpl_storePH {dst : Option Tmp} {ty : TypeId} {pos : String} {after : Array Edge} {guard : Option (Nat × Bool)} {x y : Operand} {b off : Nat} {a0 : Option Addr} (CT : CellTy T) (hw : Region.wanted ⟨dst, .store T x y, ty, pos, after, guard⟩ (yielded ops a.tmps) = true) (hx : a.eval x = .pointer (some ⟨b, off, none⟩)) (hy : a.eval y = .pointer a0)
    {c c1 : Array Value} {t : TypeId} {l' : List Thing} (H : Heap W l w) (m : Cel b c t ∈ l) (hn : off < c.size) (hs : c.setIfInBounds off (.pointer a0) = c1) (r : Repl l (Cel b c t) (Cel b c1 t) l')
    (h : ∀ w', Heap W l' w' → wpList Try.prog ops Q rest (a.put dst undef) w') : wpList Try.prog ops Q (⟨dst, .store T x y, ty, pos, after, guard⟩ :: rest) a w :=
  wpl_storeCH CT hw hx hy ⟨rfl, rfl⟩ H m hn hs r h
theorem wpl_storeRH {dst : Option Tmp} {ty : TypeId} {pos : String} {after : Array Edge} {guard : Option (Nat × Bool)} {x y : Operand} {b off : Nat} {c2 : Array Value} (RT : RowTy T n z) (hw : Region.wanted ⟨dst, .store T x y, ty, pos, after, guard⟩ (yielded ops a.tmps) = true) (hx : a.eval x = .pointer (some ⟨b, off, none⟩)) (hy : a.eval y = .agg c2) (hc : Cells n c2)
    {c c1 : Array Value} {t : TypeId} {l' : List Thing} (H : Heap W l w) (m : Cel b c t ∈ l) (hn : off + n ≤ c.size) (hs : splice c off c2 = c1) (r : Repl l (Cel b c t) (Cel b c1 t) l')
    (h : ∀ w', Heap W l' w' → wpList Try.prog ops Q rest (a.put dst undef) w') : wpList Try.prog ops Q (⟨dst, .store T x y, ty, pos, after, guard⟩ :: rest) a w :=
  wpl_storeR RT hw hx hy hc (H.blk m) hn hs ⟨⟨_, H.blk m⟩, rfl⟩ (h _ (H.set r))
theorem wpl_allocRH {dst : Option Tmp} {ty : TypeId} {pos : String} {after : Array Edge} {guard : Option (Nat × Bool)} (RT : RowTy T n z) (hw : Region.wanted ⟨dst, .alloc T, ty, pos, after, guard⟩ (yielded ops a.tmps) = true)
    (H : Heap W l w) (h : ∀ p w', Heap W (Cel p z T :: l) w' → wpList Try.prog ops Q rest (a.put dst (.pointer (some ⟨p, 0, none⟩))) w') : wpList Try.prog ops Q (⟨dst, .alloc T, ty, pos, after, guard⟩ :: rest) a w :=
  wpl_allocR RT hw (h _ _ (H.alloc _ _))
theorem wpl_allocCH {dst : Option Tmp} {ty : TypeId} {pos : String} {after : Array Edge} {guard : Option (Nat × Bool)} {zv : Value} (hz : (Try.prog.info? T).bind (·.zero) = some zv ∧ zv.cells = #[zv]) (hw : Region.wanted ⟨dst, .alloc T, ty, pos, after, guard⟩ (yielded ops a.tmps) = true)
    (H : Heap W l w) (h : ∀ p w', Heap W (Cel p #[zv] T :: l) w' → wpList Try.prog ops Q rest (a.put dst (.pointer (some ⟨p, 0, none⟩))) w') : wpList Try.prog ops Q (⟨dst, .alloc T, ty, pos, after, guard⟩ :: rest) a w := by
  obtain ⟨hz, hz1⟩ := hz
  refine BigFrame.wpList_want hw fun K hK => ?_
  cases hi : Try.prog.info? T with
  | none => rw [hi] at hz; cases hz
  | some i =>
    rw [hi] at hz
    have hz' : i.zero = some zv := hz
    unfold Oper.wp execOp
    have r2 : (zeroValue T).run Try.prog w = .ok zv w := by simp [zeroValue, typeInfo, hi, hz', go_sem]
    simp only [Instr.alloc, Sem.run_bind, r2, Result.andThen_ok, newVar, newRow, hz1]
    exact hK _ _ (h _ _ (H.alloc _ _))
theorem wpl_boxRH {dst : Option Tmp} {ty : TypeId} {pos : String} {after : Array Edge} {guard : Option (Nat × Bool)} {x : Operand} {c : Array Value} (hw : Region.wanted ⟨dst, .box T x, ty, pos, after, guard⟩ (yielded ops a.tmps) = true) (hx : a.eval x = .agg c)
    (H : Heap W l w) (h : ∀ p w', Heap W (Cel p c T :: l) w' → wpList Try.prog ops Q rest (a.put dst (.pointer (some ⟨p, 0, none⟩))) w') : wpList Try.prog ops Q (⟨dst, .box T x, ty, pos, after, guard⟩ :: rest) a w := by
  refine BigFrame.wpList_want hw fun K hK => ?_
  unfold Oper.wp execOp
  simp only [hx, Instr.box, newVar, newRow, Value.cells]
  exact hK _ _ (h _ _ (H.alloc _ _))
theorem wpl_boxCH {dst : Option Tmp} {ty : TypeId} {pos : String} {after : Array Edge} {guard : Option (Nat × Bool)} {x : Operand} {v : Value} (hw : Region.wanted ⟨dst, .box T x, ty, pos, after, guard⟩ (yielded ops a.tmps) = true) (hx : a.eval x = v) (hv : v.cells = #[v])
    (H : Heap W l w) (h : ∀ p w', Heap W (Cel p #[v] T :: l) w' → wpList Try.prog ops Q rest (a.put dst (.pointer (some ⟨p, 0, none⟩))) w') : wpList Try.prog ops Q (⟨dst, .box T x, ty, pos, after, guard⟩ :: rest) a w := by
  refine BigFrame.wpList_want hw fun K hK => ?_
  unfold Oper.wp execOp
  simp only [hx, Instr.box, newVar, newRow, hv]
  exact hK _ _ (h _ _ (H.alloc _ _))
theorem wpl_boxPH {dst : Option Tmp} {ty : TypeId} {pos : String} {after : Array Edge} {guard : Option (Nat × Bool)} {x : Operand} {q : Option Addr} (hw : Region.wanted ⟨dst, .box T x, ty, pos, after, guard⟩ (yielded ops a.tmps) = true) (hx : a.eval x = .pointer q)
    (H : Heap W l w) (h : ∀ p w', Heap W (Cel p #[.pointer q] T :: l) w' → wpList Try.prog ops Q rest (a.put dst (.pointer (some ⟨p, 0, none⟩))) w') : wpList Try.prog ops Q (⟨dst, .box T x, ty, pos, after, guard⟩ :: rest) a w :=
  wpl_boxCH hw hx rfl H h
/-- A callee that only makes memory. -/
theorem Ans.callH {f : FuncId} {args : Array Value} {v : Value} {R : Ending → World → Prop} (h : Ans f args v) (H : Heap W l w) (k : ∀ w', Heap W l w' → R (.returned v) w') : Calls Try.prog f args w R :=
  (h w).mono fun _ _ ⟨he, hb⟩ => by rw [he]; exact k _ (H.grow hb)
/-- In whatever world where these things lie so, it answers v, and they lie so then. -/
def AnsH (W : World) (l : List Thing) (f : FuncId) (args : Array Value) (v : Value) : Prop := ∀ w, Heap W l w → Calls Try.prog f args w fun e w' => e = .returned v ∧ Heap W l w'
theorem AnsH.call {f : FuncId} {args : Array Value} {v : Value} {R : Ending → World → Prop} (h : AnsH W l f args v) (H : Heap W l w) (k : ∀ w', Heap W l w' → R (.returned v) w') : Calls Try.prog f args w R :=
  (h w H).mono fun _ _ ⟨he, hb⟩ => by rw [he]; exact k _ hb
theorem Ans.toH {f : FuncId} {args : Array Value} {v : Value} (h : Ans f args v) : AnsH W l f args v := fun w H => (h w).mono fun _ _ ⟨he, hb⟩ => ⟨he, H.grow hb⟩
open Classical in
/-- Whatever world in which the things lie so. -/
noncomputable def Heap.any {W w : World} {l : List Thing} (_ : Heap W l w) (d : World) : World := if Heap W l d then d else w
theorem Heap.any_heap (H : Heap W l w) (d : World) : Heap W l (H.any d) := by
  unfold Heap.any
  split
  · assumption
  · exact H
theorem Heap.any_of (H : Heap W l w) {w' : World} (h : Heap W l w') : ∃ d, w' = H.any d := ⟨w', by unfold Heap.any; rw [if_pos h]⟩
theorem AnsH.quiet {f : FuncId} {args : Array Value} {v : Value} {H : Heap W l w} {d : World} (h : AnsH W l f args v) : Calls Try.prog f args (H.any d) fun e w'' => e = .returned v ∧ ∃ m, w'' = H.any m :=
  (h _ (H.any_heap d)).mono fun _ _ ⟨he, hb⟩ => ⟨he, H.any_of hb⟩
theorem Ans.quietH {f : FuncId} {args : Array Value} {v : Value} {H : Heap W l w} {d : World} (h : Ans f args v) : Calls Try.prog f args (H.any d) fun e w'' => e = .returned v ∧ ∃ m, w'' = H.any m := AnsH.quiet h.toH
/-- A region that draws its order and only reads, or calls what leaves the things so. -/
theorem wp_region_H {id : Nat} {Q : Exit → Act → World → Prop} {a : Act} {lo : List Oper} (H : Heap W l w) (hm : Try.prog.follows .mixedOrders = true) (hB : Region.lexB .any lo.toArray = true)
    (h : wpQuiet Try.prog lo.toArray (fun w' => ∃ d, w' = H.any d) (fun a' => ∀ w', Heap W l w' → Q .normal a' w') lo a) : (Code.region id lo.toArray true).wp Try.prog Q a w := by
  refine wp_region_quiet (C := fun w' => ∃ d, w' = H.any d) hm hB (H.any_of H.drew) (wpQuiet_mono (fun _ h w' hw' => by obtain ⟨d, rfl⟩ := hw'; exact h _ (H.any_heap d)) _ _ (by simpa using h))
theorem wp_region_H_tail {id : Nat} {Q : Exit → Act → World → Prop} {a : Act} {lo : List Oper} (n : Nat) (H : Heap W l w) (hm : Try.prog.follows .mixedOrders = true) (hB : Region.lexTailB .any lo.toArray n = true)
    (h : wpQuiet Try.prog lo.toArray (fun w' => ∃ d, w' = H.any d) (fun a' => ∀ w', Heap W l w' → wpList Try.prog lo.toArray Q (lo.drop n) a' w') (lo.take n) a) : (Code.region id lo.toArray true).wp Try.prog Q a w := by
  refine wp_region_tail (C := fun w' => ∃ d, w' = H.any d) n hm hB (H.any_of H.drew) (wpQuiet_mono (fun _ h w' hw' => by obtain ⟨d, rfl⟩ := hw'; exact h _ (H.any_heap d)) _ _ (by simpa using h))
theorem wpQ_loadCH {dst : Option Tmp} {ty : TypeId} {pos : String} {after : Array Edge} {guard : Option (Nat × Bool)} {x : Operand} {b off : Nat} {K : Act → Prop} {H : Heap W l w} (CT : CellTy T) (hw : Region.wanted ⟨dst, .load T x, ty, pos, after, guard⟩ (yielded ops a.tmps) = true) (hx : a.eval x = .pointer (some ⟨b, off, none⟩))
    {c : Array Value} {v : Value} {t : TypeId} (m : Cel b c t ∈ l) (hv : c[off]? = some v)
    (h : wpQuiet Try.prog ops (fun w' => ∃ d, w' = H.any d) K rest (a.put dst v)) : wpQuiet Try.prog ops (fun w' => ∃ d, w' = H.any d) K (⟨dst, .load T x, ty, pos, after, guard⟩ :: rest) a := by
  refine BigFrame.wpQuiet_want hw fun K hK => ⟨_, ?_, hK _ h⟩
  rintro _ ⟨d, rfl⟩
  unfold Oper.quietAt execOp
  simp only [hx, Sem.run_bind, run_loadC CT ((H.any_heap d).blk m) hv]
  exact ⟨rfl, rfl⟩
theorem wpQ_loadRH {dst : Option Tmp} {ty : TypeId} {pos : String} {after : Array Edge} {guard : Option (Nat × Bool)} {x : Operand} {b off : Nat} {K : Act → Prop} {H : Heap W l w} (RT : RowTy T n z) (hw : Region.wanted ⟨dst, .load T x, ty, pos, after, guard⟩ (yielded ops a.tmps) = true) (hx : a.eval x = .pointer (some ⟨b, off, none⟩))
    {c c1 : Array Value} {t : TypeId} (m : Cel b c t ∈ l) (hn : off + n ≤ c.size) (he : c.extract off (off + n) = c1)
    (h : wpQuiet Try.prog ops (fun w' => ∃ d, w' = H.any d) K rest (a.put dst (.agg c1))) : wpQuiet Try.prog ops (fun w' => ∃ d, w' = H.any d) K (⟨dst, .load T x, ty, pos, after, guard⟩ :: rest) a := by
  subst he
  refine BigFrame.wpQuiet_want hw fun K hK => ⟨_, ?_, hK _ h⟩
  rintro _ ⟨d, rfl⟩
  unfold Oper.quietAt execOp
  simp only [hx, Sem.run_bind, run_loadR RT ((H.any_heap d).blk m) hn]
  exact ⟨rfl, rfl⟩
theorem run_buildSlice1 {t e : Nat} {zs : Array Value} (hu : Try.prog.underlying t = some (.slice e)) (RT : (Try.prog.info? e).map (fun i => (i.size, i.zero.map Value.cells)) = some (zs.size, some zs)) (h0 : 0 < zs.size) (h1 : zs.size ≤ 65536) (v : Value) (hv : v.cells.size = zs.size) (w : World) :
    (Instr.buildSlice t 1 #[(0, v)]).run Try.prog w = .ok (.slice (some ⟨w.heap.size, 0, none⟩) 1 1) (w.alloc (.cells v.cells e)) := by
  obtain ⟨i, hi, he⟩ := Option.map_eq_some_iff.1 RT
  simp only [Prod.mk.injEq] at he
  obtain ⟨hs, hz⟩ := he
  obtain ⟨zv, hzv, rfl⟩ := Option.map_eq_some_iff.1 hz
  have hne : zv.cells.size ≠ 0 := by omega
  have hbig : ¬ (2 ^ 24 < zv.cells.size) := by omega
  have key : ∀ (xs : List Value) (k : Nat) (pre post : List Value), pre.length = k → xs.length ≤ post.length → (List.foldl (fun (cs : Array Value) (x : Value × Nat) => cs.setIfInBounds x.2 x.1) (pre ++ post).toArray (xs.zipIdx k)) = (pre ++ xs ++ post.drop xs.length).toArray := by
    intro xs
    induction xs with
    | nil => intro k pre post _ _; simp
    | cons x xs ih =>
      intro k pre post hk hl
      rcases post with _ | ⟨y, post⟩
      · simp at hl
      · subst hk
        simp only [List.zipIdx_cons, List.foldl_cons, List.setIfInBounds_toArray]
        have := ih (pre.length + 1) (pre ++ [x]) post (by simp) (by simpa using hl)
        rw [show (pre ++ y :: post).set pre.length x = (pre ++ [x]) ++ post by simp [List.set_append], this]
        simp
  have hk := key v.cells.toList 0 [] (List.map (fun j => zv.cells[j % zv.cells.size]!) (List.range zv.cells.size)) rfl (by simp [hv])
  simp only [List.nil_append, List.length_map, Array.length_toList] at hk
  have hk2 : Array.foldl (fun (cs : Array Value) (x : Value × Nat) => cs.setIfInBounds x.2 x.1) (Array.map (fun j => zv.cells[j % zv.cells.size]!) (Array.range zv.cells.size)) v.cells.zipIdx = v.cells := by
    rw [← Array.foldl_toList]
    simp only [Array.toList_zipIdx]
    rw [show Array.map (fun j => zv.cells[j % zv.cells.size]!) (Array.range zv.cells.size) = (List.map (fun j => zv.cells[j % zv.cells.size]!) (List.range zv.cells.size)).toArray by
      apply Array.ext'; simp]
    rw [hk]
    rw [List.drop_eq_nil_of_le (by simp [hv])]
    simp
  have hsz : (Array.map (fun j => zv.cells[j % zv.cells.size]!) (Array.range zv.cells.size)).size = zv.cells.size := by simp
  have r1 : (sizeOf e).run Try.prog w = .ok zv.cells.size w := by simp [sizeOf, typeInfo, hi, hs, go_sem]
  have r2 : (zeroValue e).run Try.prog w = .ok zv w := by simp [zeroValue, typeInfo, hi, hzv, go_sem]
  have hf : Instr.fill (fun i => some (i * zv.cells.size, zv.cells.size)) (Array.map (fun x => zv.cells[x % zv.cells.size]!) (Array.range zv.cells.size)) [(0, v)] = some v.cells := by
    unfold Instr.fill
    simp only [Nat.zero_mul, Nat.zero_add, hsz, hv]
    rw [if_neg (by simp)]
    unfold Instr.fill
    exact congrArg some hk2
  unfold Instr.buildSlice
  rw [Sem.run_bind, run_underlying hu]
  simp only [Result.andThen_ok]
  rw [Sem.run_bind, r1]
  simp only [Result.andThen_ok, Nat.one_mul]
  rw [if_neg hbig, if_neg hne]
  simp only [Sem.run_bind, r2, Result.andThen_ok, Sem.run_pure]
  rw [hf]
  simp [newRow, go_sem]
theorem wpl_bsH {dst : Option Tmp} {ty : TypeId} {pos : String} {after : Array Edge} {guard : Option (Nat × Bool)} {x : Operand} {v : Value} {t e : Nat} {c zs : Array Value} (hw : Region.wanted ⟨dst, .buildSlice t 1 #[(0, x)], ty, pos, after, guard⟩ (yielded ops a.tmps) = true) (hx : a.eval x = v) (hc : v.cells = c)
    (hT : Try.prog.underlying t = some (.slice e) ∧ (Try.prog.info? e).map (fun i => (i.size, i.zero.map Value.cells)) = some (zs.size, some zs) ∧ 0 < zs.size ∧ zs.size ≤ 65536) (hv : c.size = zs.size)
    (H : Heap W l w) (h : ∀ p w', Heap W (Cel p c e :: l) w' → wpList Try.prog ops Q rest (a.put dst (.slice (some ⟨p, 0, none⟩) 1 1)) w') : wpList Try.prog ops Q (⟨dst, .buildSlice t 1 #[(0, x)], ty, pos, after, guard⟩ :: rest) a w := by
  subst hc
  refine BigFrame.wpList_want hw fun K hK => ?_
  unfold Oper.wp execOp
  simp only [List.map_toArray, List.map_cons, List.map_nil, hx, Sem.run_bind, run_buildSlice1 hT.1 hT.2.1 hT.2.2.1 hT.2.2.2 v hv, Result.andThen_ok, Sem.run_pure]
  exact hK _ _ (h _ _ (H.alloc _ _))
theorem wpl_bsRH {dst : Option Tmp} {ty : TypeId} {pos : String} {after : Array Edge} {guard : Option (Nat × Bool)} {x : Operand} {t e : Nat} {c zs : Array Value} (hw : Region.wanted ⟨dst, .buildSlice t 1 #[(0, x)], ty, pos, after, guard⟩ (yielded ops a.tmps) = true) (hx : a.eval x = .agg c)
    (hT : Try.prog.underlying t = some (.slice e) ∧ (Try.prog.info? e).map (fun i => (i.size, i.zero.map Value.cells)) = some (zs.size, some zs) ∧ 0 < zs.size ∧ zs.size ≤ 65536) (hv : c.size = zs.size)
    (H : Heap W l w) (h : ∀ p w', Heap W (Cel p c e :: l) w' → wpList Try.prog ops Q rest (a.put dst (.slice (some ⟨p, 0, none⟩) 1 1)) w') : wpList Try.prog ops Q (⟨dst, .buildSlice t 1 #[(0, x)], ty, pos, after, guard⟩ :: rest) a w :=
  wpl_bsH hw hx rfl hT hv H h
theorem Heap.loadVar (RT : RowTy T n z) (H : Heap W l w) {b : Nat} {c : Array Value} {t : TypeId} (m : Cel b c t ∈ l) (hn : c.size = n) : (loadVar T ⟨b, 0, none⟩).run Try.prog w = .ok (.agg c) w := by
  obtain ⟨d, hu, hr⟩ := RT.und
  exact run_loadVar_row w b t T c (0, 0) d (H.blk m) hu (by cases d <;> first | rfl | (simp [TypeDesc.isRow] at hr)) (by rw [RT.size, hn])
theorem ret_row1H (RT : RowTy T n z) {fn : Func} {p : Tmp} (hf : fn.results = #[.cell p T]) {R : Ending → World → Prop} {b : Nat} (hp : a.tmps.getD p undef = .pointer (some ⟨b, 0, none⟩)) (hd : a.defers = [])
    (H : Heap W l w) {c : Array Value} {t : TypeId} (m : Cel b c t ∈ l) (hn : c.size = n) (h : R (.returned (.agg c)) w) : bodyPost Try.prog fn R .ret a w :=
  ret_rowR RT hf hp hd (H.blk m) hn h
theorem results_row3H (RT : RowTy T n z) {fn : Func} {p x y : Tmp} (hf : fn.results = #[.cell p T, .tmp x, .tmp y]) {tmps : Array Value} {b : Nat} (hp : tmps.getD p undef = .pointer (some ⟨b, 0, none⟩))
    (H : Heap W l w) {c : Array Value} {t : TypeId} (m : Cel b c t ∈ l) (hn : c.size = n) {vx vy : Value} (hx : tmps.getD x undef = vx) (hy : tmps.getD y undef = vy) : (results fn tmps).run Try.prog w = .ok (.tuple #[.agg c, vx, vy]) w := by
  have hp' : tmps[p]?.getD undef = .pointer (some ⟨b, 0, none⟩) := by simpa using hp
  have hx' : tmps[x]?.getD undef = vx := by simpa using hx
  have hy' : tmps[y]?.getD undef = vy := by simpa using hy
  simp [results, hf, hp', hx', hy', asAddr, H.loadVar RT m hn]
theorem ret_row3H (RT : RowTy T n z) {fn : Func} {p x y : Tmp} (hf : fn.results = #[.cell p T, .tmp x, .tmp y]) {R : Ending → World → Prop} {b : Nat} (hp : a.tmps.getD p undef = .pointer (some ⟨b, 0, none⟩)) (hd : a.defers = [])
    (H : Heap W l w) {c : Array Value} {t : TypeId} (m : Cel b c t ∈ l) (hn : c.size = n) {vx vy : Value} (hx : a.tmps.getD x undef = vx) (hy : a.tmps.getD y undef = vy) (h : R (.returned (.tuple #[.agg c, vx, vy])) w) : bodyPost Try.prog fn R .ret a w := by
  have hp' : a.tmps[p]?.getD undef = .pointer (some ⟨b, 0, none⟩) := by simpa using hp
  have hx' : a.tmps[x]?.getD undef = vx := by simpa using hx
  have hy' : a.tmps[y]?.getD undef = vy := by simpa using hy
  exact bodyPost_ret (v := .tuple #[.agg c, vx, vy]) (by simp [results, hf, hp', hx', hy', asAddr, H.loadVar RT m hn]) hd h
theorem ret_row2H (RT : RowTy T n z) {fn : Func} {p x : Tmp} (hf : fn.results = #[.cell p T, .tmp x]) {R : Ending → World → Prop} {b : Nat} (hp : a.tmps.getD p undef = .pointer (some ⟨b, 0, none⟩)) (hd : a.defers = [])
    (H : Heap W l w) {c : Array Value} {t : TypeId} (m : Cel b c t ∈ l) (hn : c.size = n) {vx : Value} (hx : a.tmps.getD x undef = vx) (h : R (.returned (.tuple #[.agg c, vx])) w) : bodyPost Try.prog fn R .ret a w := by
  have hp' : a.tmps[p]?.getD undef = .pointer (some ⟨b, 0, none⟩) := by simpa using hp
  have hx' : a.tmps[x]?.getD undef = vx := by simpa using hx
  exact bodyPost_ret (v := .tuple #[.agg c, vx]) (by simp [results, hf, hp', hx', asAddr, H.loadVar RT m hn]) hd h
end
end Go.Proofs.Ytacglcpjbepfnaa
