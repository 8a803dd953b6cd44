/- Part 3 of what ProofBooksPlay stands on: HeapRegion, HeapEarly, RowO, MarkO, Cells, Bok2, HeapClear, Bok3, HeapLoud, HeapCalls, InRound. -/
import Derived.Test.YtacglcpjbepfnaaBksPPart2
import Derived.Laws.StructEq
import Derived.Lib.SliceRun
import Derived.RangeFuncIn
import Derived.RangeFuncRecord
import Derived.OrdersIn
import Derived.TacticsIn
/- A region that draws its order, over a memory of things: operations that only read, or call what leaves the things so; and loud ones (a make, a store) that stand in one order. One walk in the order of the text serves every order. -/
namespace Go.Proofs.Ytacglcpjbepfnaa
open Go.RowKit
set_option linter.unusedVariables false

section
variable {P : Program} {ops : Array Oper} {md : Region.Mode} {W : World} {G : List Thing → Prop}
/-- In whatever memory of such things the operation yields v, and leaves the things so. -/
def YieldsG (P : Program) (ops : Array Oper) (W : World) (G : List Thing → Prop) (o : Oper) (v : Value) (a : Act) : Prop := ∀ l, G l → ∀ (w : World) (H : Heap W l w), YieldsIn P ops (fun w' => ∃ d, w' = H.any d) o v a
theorem YieldsG.of_same {o : Oper} {v : Value} {a a' : Act} (hy : YieldsG P ops W G o v a) (he : execOp a'.eval o = execOp a.eval o)
    (hw : Region.wanted o (yielded ops a'.tmps) = Region.wanted o (yielded ops a.tmps)) : YieldsG P ops W G o v a' := fun l hl w H => (hy l hl w H).of_same he hw
/-- The operation makes other things of the things. -/
def LoudG (P : Program) (ops : Array Oper) (W : World) (o : Oper) (l : List Thing) (a : Act) (k : List Thing → Value → Prop) : Prop :=
  Region.wanted o (yielded ops a.tmps) = true ∧ ∀ w, Heap W l w → ∃ l' u w', ((execOp a.eval o).run P w = .ok (.value u) w' ∨ ((execOp a.eval o).run P w = .ok .skip w' ∧ u = undef)) ∧ Heap W l' w' ∧ k l' u
theorem LoudG.mono {o : Oper} {l : List Thing} {a : Act} {k k' : List Thing → Value → Prop} (h : LoudG P ops W o l a k) (hk : ∀ l' u, k l' u → k' l' u) : LoudG P ops W o l a k' :=
  ⟨h.1, fun w H => let ⟨l', u, w', h1, h2, h3⟩ := h.2 w H; ⟨l', u, w', h1, h2, hk _ _ h3⟩⟩
theorem LoudG.of_same {o : Oper} {l : List Thing} {a a' : Act} {k : List Thing → Value → Prop} (h : LoudG P ops W o l a k) (he : execOp a'.eval o = execOp a.eval o)
    (hw : Region.wanted o (yielded ops a'.tmps) = Region.wanted o (yielded ops a.tmps)) : LoudG P ops W o l a' k := ⟨by rw [hw]; exact h.1, fun w H => by rw [he]; exact h.2 w H⟩
def WholeG (P : Program) (md : Region.Mode) (ops : Array Oper) (W : World) (G : List Thing → Prop) (K : List Thing → Act → Prop) : Nat → List Thing → Array Bool → Act → Prop
  | 0, l, listed, a => Region.ready md ops listed = [] ∧ K l a
  | f + 1, l, listed, a => Region.ready md ops listed ≠ [] ∧ ∀ i ∈ Region.ready md ops listed, ∃ o, ops[i]? = some o ∧
      ((∃ v, YieldsG P ops W G o v a ∧ WholeG P md ops W G K f l (listed.setIfInBounds i true) (a.put o.dst v)) ∨
       LoudG P ops W o l a fun l' u => G l' ∧ WholeG P md ops W G K f l' (listed.setIfInBounds i true) (a.put o.dst u))
theorem WholeG.any {K : List Thing → Act → Prop} {Q : Exit → Act → World → Prop} (hK : ∀ l a w, Heap W l w → K l a → Q .normal a w) :
    ∀ (f : Nat) (l : List Thing) (listed : Array Bool) (a : Act) (w : World), G l → Heap W l w → WholeG P md ops W G K f l listed a → wpAny P md ops Q f listed a w := by
  intro f
  induction f with
  | zero => intro l listed a w _ H h; exact ⟨h.1, hK _ _ _ H h.2⟩
  | succ f ih =>
    intro l listed a w hG H h
    refine ⟨fun h0 => absurd h0 h.1, fun i hi => ?_⟩
    obtain ⟨o, ho, h⟩ := h.2 i hi
    rcases h with ⟨v, hy, h⟩ | h
    · refine wpOp_of_qOp (C := fun w' => ∃ d, w' = H.any d) (H.any_of H) (fun a' w' hw' ha' => ?_) ((hy l hG w H).qOp ho (K := fun a' => a' = a.put o.dst v) rfl)
      obtain ⟨d, rfl⟩ := hw'
      subst ha'
      exact ih _ _ _ _ hG (H.any_heap d) h
    · obtain ⟨l', u, w', hr, H', hG', hk⟩ := h.2 w H
      unfold wpOp
      simp only [ho]
      rw [if_pos h.1]
      refine .inl ?_
      unfold Oper.wp
      rcases hr with hr | ⟨hr, rfl⟩ <;> rw [hr] <;> exact ih _ _ _ _ hG' H' hk
theorem WholeG.first {i : Nat} {oi : Oper} {v : Value} {K : List Thing → Act → Prop} (hi : ops[i]? = some oi) (hsel : ∀ (j : Nat) (o : Oper) cs b, ops[j]? = some o → o.op ≠ .select cs b) :
    ∀ (f : Nat) (l : List Thing) (listed : Array Bool) (a : Act),
      (∀ j oj, ops[j]? = some oj → j ≠ i → listed.getD j true = false → (∀ e ∈ oj.after, Region.binds md e = true → e.on ≠ i) → oi.apart ops oj = true) →
      i ∈ Region.ready md ops listed → YieldsG P ops W G oi v a → WholeG P md ops W G K f l (listed.setIfInBounds i true) (a.put oi.dst v) → WholeG P md ops W G K (f + 1) l listed a := by
  intro f
  induction f with
  | zero =>
    intro l listed a _ hr hy H
    refine ⟨fun h => by rw [h] at hr; simp at hr, fun j hj => ?_⟩
    by_cases e : j = i
    · subst e; exact ⟨oi, hi, .inl ⟨v, hy, H⟩⟩
    · have := ready_mono hj e
      rw [H.1] at this; cases this
  | succ f ih =>
    intro l listed a hfree hr hy H
    have hun := (mem_ready.1 hr).1
    refine ⟨fun h => by rw [h] at hr; simp at hr, fun j hj => ?_⟩
    by_cases e : j = i
    · subst e; exact ⟨oi, hi, .inl ⟨v, hy, H⟩⟩
    · obtain ⟨hjun, oj, hoj, hall⟩ := mem_ready.1 hj
      have hnot : ∀ e ∈ oj.after, Region.binds md e = true → e.on ≠ i := fun e he hb heq => by
        have := hall e he hb
        rw [heq, getD_both hun] at this
        cases this
      obtain ⟨h1, h2, h3⟩ := Oper.apart_spec (hfree j oj hoj e hjun hnot)
      have hsi := fun cs b => hsel i oi cs b hi
      have hsj := fun cs b => hsel j oj cs b hoj
      have keep : ∀ u, YieldsG P ops W G oi v (a.put oj.dst u) := fun u => hy.of_same (execOp_put oi hsi a oj.dst u h3) (wanted_put oi a oj.dst u h3)
      have hfree' : ∀ k ok, ops[k]? = some ok → k ≠ i → (listed.setIfInBounds j true).getD k true = false →
          (∀ e ∈ ok.after, Region.binds md e = true → e.on ≠ i) → oi.apart ops ok = true := fun k ok hk hki hun hno => by
        refine hfree k ok hk hki ?_ hno
        by_cases hjk : j = k
        · subst hjk; exact hjun
        · rw [getD_set_ne true hjk] at hun; exact hun
      obtain ⟨o', ho', h⟩ := H.2 j (ready_mono hj e)
      obtain rfl : o' = oj := Option.some.inj (ho'.symm.trans hoj)
      refine ⟨o', hoj, ?_⟩
      rcases h with ⟨u, hu, h⟩ | h
      · refine .inl ⟨u, hu.of_same (execOp_put o' hsj a oi.dst v h1).symm (wanted_put o' a oi.dst v h1).symm, ih _ _ _ hfree' (ready_mono hr (Ne.symm e)) (keep _) ?_⟩
        rw [Array.setIfInBounds_comm _ _ e, ← Act.put_comm a v _ h2]
        exact h
      · refine .inr ((h.of_same (execOp_put o' hsj a oi.dst v h1).symm (wanted_put o' a oi.dst v h1).symm).mono fun l' u ⟨hg, h⟩ => ⟨hg, ih _ _ _ hfree' (ready_mono hr (Ne.symm e)) (keep _) ?_⟩)
        rw [Array.setIfInBounds_comm _ _ e, ← Act.put_comm a v _ h2]
        exact h
/-- Is the order of the text one that serves: each quiet operation may come first, each loud one must? -/
def Region.lexW (md : Region.Mode) (ops : Array Oper) (loud : List Nat) : Nat → Nat → Array Bool → Bool
  | 0, _, listed => (Region.ready md ops listed).isEmpty
  | f + 1, k, listed => (if loud.contains k then Region.ready md ops listed == [k] else (Region.ready md ops listed).contains k && Region.free md ops listed k) && Region.lexW md ops loud f (k + 1) (listed.setIfInBounds k true)
def Region.lexWB (ops : Array Oper) (loud : List Nat) : Bool := Region.noSelect ops && Region.lexW .any ops loud ops.size 0 (Array.replicate ops.size false)
/-- The walk in the order of the text. -/
def wpW (P : Program) (ops : Array Oper) (W : World) (G : List Thing → Prop) (loud : List Nat) (K : List Thing → Act → Prop) : List Oper → Nat → List Thing → Act → Prop
  | [], _, l, a => K l a
  | o :: rest, k, l, a => if loud.contains k then LoudG P ops W o l a fun l' u => G l' ∧ wpW P ops W G loud K rest (k + 1) l' (a.put o.dst u)
      else ∃ v, YieldsG P ops W G o v a ∧ wpW P ops W G loud K rest (k + 1) l (a.put o.dst v)
theorem WholeG.lex {loud : List Nat} {K : List Thing → Act → Prop} (hsel : Region.noSelect ops = true) :
    ∀ (rest : List Oper) (k : Nat) (l : List Thing) (listed : Array Bool) (a : Act), (∀ j, j < rest.length → rest[j]? = ops[k + j]?) → Region.lexW md ops loud rest.length k listed = true → wpW P ops W G loud K rest k l a → WholeG P md ops W G K rest.length l listed a := by
  intro rest
  induction rest with
  | nil => intro k l listed a _ hB h; exact ⟨by simpa [Region.lexW] using hB, h⟩
  | cons o rest ih =>
    intro k l listed a hl hB h
    have h0 : ops[k]? = some o := by simpa using (hl 0 (by simp)).symm
    have hl' : ∀ j, j < rest.length → rest[j]? = ops[k + 1 + j]? := fun j hj => by have := hl (j + 1) (by simp; omega); simpa [Nat.add_assoc, Nat.add_comm 1 j] using this
    rw [List.length_cons, Region.lexW] at hB
    simp only [Bool.and_eq_true] at hB
    obtain ⟨hB, hB'⟩ := hB
    unfold wpW at h
    by_cases hk : loud.contains k = true
    · rw [if_pos hk] at h hB
      have hr : Region.ready md ops listed = [k] := by simpa using hB
      refine ⟨by rw [hr]; simp, fun i hi => ?_⟩
      rw [hr] at hi
      obtain rfl : i = k := by simpa using hi
      exact ⟨o, h0, .inr (h.mono fun l' u ⟨hg, h⟩ => ⟨hg, ih _ _ _ _ hl' hB' h⟩)⟩
    · rw [if_neg hk] at h hB
      simp only [Bool.and_eq_true] at hB
      obtain ⟨v, hy, h⟩ := h
      exact WholeG.first h0 (Region.noSelect_spec hsel) rest.length l listed a (Region.free_spec h0 hB.2) (by simpa using hB.1) hy (ih _ _ _ _ hl' hB' h)
theorem wp_region_W {id : Nat} {Q : Exit → Act → World → Prop} {a : Act} {w : World} {l : List Thing} {lo : List Oper} (loud : List Nat) (G : List Thing → Prop) (H : Heap W l w) (hG : G l) (hm : P.follows .mixedOrders = true) (hB : Region.lexWB lo.toArray loud = true)
    (h : wpW P lo.toArray W G loud (fun l' a' => ∀ w', Heap W l' w' → Q .normal a' w') lo 0 l a) : (Code.region id lo.toArray true).wp P Q a w := by
  simp only [Region.lexWB, Bool.and_eq_true] at hB
  refine wp_region_any hm ?_
  have := WholeG.lex (md := .any) hB.1 lo 0 l (Array.replicate lo.toArray.size false) a (fun j hj => by simp) (by simpa using hB.2) h
  have h2 := WholeG.any (Q := Q) (fun l a w H h => h w H) lo.length l _ a _ hG H.drew this
  simpa using h2
/-- Is this order one that serves? -/
def Region.lexO (md : Region.Mode) (ops : Array Oper) (loud : List Nat) : List Nat → Array Bool → Bool
  | [], listed => (Region.ready md ops listed).isEmpty
  | k :: ks, listed => (if loud.contains k then Region.ready md ops listed == [k] else (Region.ready md ops listed).contains k && Region.free md ops listed k) && Region.lexO md ops loud ks (listed.setIfInBounds k true)
def Region.lexOB (ops : Array Oper) (loud ord : List Nat) : Bool := Region.noSelect ops && Region.lexO .any ops loud ord (Array.replicate ops.size false) && ord.length == ops.size
/-- The walk in an order of one's own. -/
def wpO (P : Program) (ops : Array Oper) (W : World) (G : List Thing → Prop) (loud : List Nat) (K : List Thing → Act → Prop) : List Nat → List Thing → Act → Prop
  | [], l, a => K l a
  | k :: ks, l, a => ∃ o, ops[k]? = some o ∧ if loud.contains k then LoudG P ops W o l a fun l' u => G l' ∧ wpO P ops W G loud K ks l' (a.put o.dst u)
      else ∃ v, YieldsG P ops W G o v a ∧ wpO P ops W G loud K ks l (a.put o.dst v)
theorem WholeG.lexO {loud : List Nat} {K : List Thing → Act → Prop} (hsel : Region.noSelect ops = true) :
    ∀ (ks : List Nat) (l : List Thing) (listed : Array Bool) (a : Act), Region.lexO md ops loud ks listed = true → wpO P ops W G loud K ks l a → WholeG P md ops W G K ks.length l listed a := by
  intro ks
  induction ks with
  | nil => intro l listed a hB h; exact ⟨by simpa [Region.lexO] using hB, h⟩
  | cons k ks ih =>
    intro l listed a hB h
    obtain ⟨o, h0, h⟩ := h
    rw [Region.lexO] at hB
    simp only [Bool.and_eq_true] at hB
    obtain ⟨hB, hB'⟩ := hB
    by_cases hk : loud.contains k = true
    · rw [if_pos hk] at h hB
      have hr : Region.ready md ops listed = [k] := by simpa using hB
      refine ⟨by rw [hr]; simp, fun i hi => ?_⟩
      rw [hr] at hi
      obtain rfl : i = k := by simpa using hi
      exact ⟨o, h0, .inr (h.mono fun l' u ⟨hg, h⟩ => ⟨hg, ih _ _ _ hB' h⟩)⟩
    · rw [if_neg hk] at h hB
      simp only [Bool.and_eq_true] at hB
      obtain ⟨v, hy, h⟩ := h
      exact WholeG.first h0 (Region.noSelect_spec hsel) ks.length l listed a (Region.free_spec h0 hB.2) (by simpa using hB.1) hy (ih _ _ _ hB' h)
theorem wpW_nil {loud : List Nat} {K : List Thing → Act → Prop} {k : Nat} {l : List Thing} {a : Act} (h : K l a) : wpW P ops W G loud K [] k l a := h
theorem wpW_step {loud : List Nat} {K : List Thing → Act → Prop} {o : Oper} {rest : List Oper} {k : Nat} {l : List Thing} {a : Act} {s : Nat} {v : Value} (hk : loud.contains k = false) (hd : o.dst = some s) (hlt : s < a.tmps.size)
    (h1 : ∀ l0, G l0 → ∀ (w0 : World) (H0 : Heap W l0 w0), wpQuiet P ops (fun w' => ∃ d, w' = H0.any d) (fun a' => a'.tmps.getD s undef = v) [o] a) (h2 : wpW P ops W G loud K rest (k + 1) l (a.put o.dst v)) : wpW P ops W G loud K (o :: rest) k l a := by
  have inj : ∀ u, (a.put o.dst u).tmps.getD s undef = v → u = v := fun u h => by
    rw [hd] at h
    simp [Act.put, hlt] at h
    exact h
  unfold wpW
  rw [if_neg (by rw [hk]; exact Bool.false_ne_true)]
  refine ⟨v, fun l0 hl0 w0 H0 => ?_, h2⟩
  have h := h1 l0 hl0 w0 H0
  unfold wpQuiet at h
  by_cases hw : Region.wanted o (yielded ops a.tmps) = true
  · rw [if_pos hw] at h
    obtain ⟨u, hu, hk⟩ := h
    obtain rfl := inj u hk
    exact .inl ⟨hw, hu⟩
  · rw [if_neg hw] at h
    exact .inr ⟨by simpa using hw, (inj undef h).symm⟩
theorem wpW_loud {loud : List Nat} {K : List Thing → Act → Prop} {o : Oper} {rest : List Oper} {k : Nat} {l : List Thing} {a : Act} (hk : loud.contains k = true) (h : LoudG P ops W o l a fun l' u => G l' ∧ wpW P ops W G loud K rest (k + 1) l' (a.put o.dst u)) : wpW P ops W G loud K (o :: rest) k l a := by
  unfold wpW
  rw [if_pos hk]
  exact h
end
section
variable {ops : Array Oper} {W : World} {G : List Thing → Prop} {loud : List Nat} {K : List Thing → Act → Prop} {rest : List Oper} {k : Nat} {l : List Thing} {a : Act} {T n : Nat} {z : Array Value}
theorem wpW_allocR {dst : Option Tmp} {ty : TypeId} {pos : String} {after : Array Edge} {guard : Option (Nat × Bool)} (RT : RowTy T n z) (hk : loud.contains k = true) (hw : Region.wanted ⟨dst, .alloc T, ty, pos, after, guard⟩ (yielded ops a.tmps) = true)
    (hG : ∀ p, G (Cel p z T :: l)) (h : ∀ p, wpW Try.prog ops W G loud K rest (k + 1) (Cel p z T :: l) (a.put dst (.pointer (some ⟨p, 0, none⟩)))) : wpW Try.prog ops W G loud K (⟨dst, .alloc T, ty, pos, after, guard⟩ :: rest) k l a := by
  refine wpW_loud hk ⟨hw, fun w H => ⟨Cel w.heap.size z T :: l, .pointer (some ⟨w.heap.size, 0, none⟩), w.alloc (.cells z T), .inl ?_, H.alloc _ _, hG _, h _⟩⟩
  have hz := RT.zero
  cases hi : Try.prog.info? T with
  | none => rw [hi] at hz; cases hz
  | some i =>
    rw [hi] at hz
    have hz' : i.zero = some (.agg z) := hz
    have r2 : (zeroValue T).run Try.prog w = .ok (.agg z) w := by simp [zeroValue, typeInfo, hi, hz', go_sem]
    unfold execOp
    simp only [Instr.alloc, Sem.run_bind, r2, Result.andThen_ok, newVar, newRow, Value.cells]
    rfl
theorem run_storeR (RT : RowTy T n z) {w : World} {b off : Nat} {c c0 : Array Value} {t : TypeId} (hc : Cells n c) (hb : w.heap[b]? = some (.cells c0 t (0, 0))) (hn : off + n ≤ c0.size) :
    (Instr.storeAt T (.pointer (some ⟨b, off, none⟩)) (.agg c)).run Try.prog w = .ok () (setBlk w b (splice c0 off c)) := by
  have ht : w.there b off c.size := fun j hj => ⟨by
    rw [cell_of_row w b (off + j) c0 t _ hb, Array.getElem?_eq_getElem (by have := hc.1; omega)]; rfl, frozen_of_row w b (off + j) c0 t hb⟩
  simp only [Instr.storeAt, Instr.sureAddr, Sem.run_bind, Sem.run_pure, Result.andThen_ok, run_storeVar_mid w b off T c ht (by rw [RT.size, hc.1]) hc.2]
  rw [setCells_blk b c.toList off w c0 t _ hb (by have := hc.1; simp; omega)]
  unfold splice
  simp
theorem wpW_storeR {dst : Option Tmp} {ty : TypeId} {pos : String} {after : Array Edge} {guard : Option (Nat × Bool)} {x y : Operand} {b off : Nat} {c2 : Array Value} (RT : RowTy T n z) (hk : loud.contains k = true) (hw : Region.wanted ⟨dst, .store T x y, ty, pos, after, guard⟩ (yielded ops a.tmps) = true) (hx : a.eval x = .pointer (some ⟨b, off, none⟩)) (hy : a.eval y = .agg c2) (hc : Cells n c2)
    {c c1 : Array Value} {t : TypeId} {l' : List Thing} (m : Cel b c t ∈ l) (hn : off + n ≤ c.size) (hs : splice c off c2 = c1) (r : Repl l (Cel b c t) (Cel b c1 t) l') (hG : G l')
    (h : wpW Try.prog ops W G loud K rest (k + 1) l' (a.put dst undef)) : wpW Try.prog ops W G loud K (⟨dst, .store T x y, ty, pos, after, guard⟩ :: rest) k l a := by
  subst hs
  refine wpW_loud hk ⟨hw, fun w H => ⟨l', undef, setBlk w b (splice c off c2), .inr ⟨?_, rfl⟩, H.set r, hG, h⟩⟩
  unfold execOp
  simp only [hx, hy, Sem.run_bind, run_storeR RT hc (H.blk m) hn, Result.andThen_ok]
  rfl
theorem run_storeC {T : TypeId} (CT : CellTy T) {w : World} {b off : Nat} {v : Value} {c0 : Array Value} {t : TypeId} (hc : v.cells = #[v] ∧ v.oneCell' = true) (hb : w.heap[b]? = some (.cells c0 t (0, 0))) (hn : off < c0.size) :
    (Instr.storeAt T (.pointer (some ⟨b, off, none⟩)) v).run Try.prog w = .ok () (setBlk w b (c0.setIfInBounds off v)) := by
  have hsz : (sizeOf T).run Try.prog w = .ok 1 w := by
    have := CT.size
    cases hi : Try.prog.info? T with
    | none => rw [hi] at this; cases this
    | some i => rw [hi] at this; simp at this; simp [sizeOf, typeInfo, hi, this, go_sem]
  have hcell : (w.cell? ⟨b, off, none⟩).isSome = true := by rw [cell_of_row w b off c0 t _ hb, Array.getElem?_eq_getElem hn]; rfl
  have hfr : w.frozen? ⟨b, off, none⟩ = false := frozen_of_row w b off c0 t hb
  have e : setBlk w b (c0.setIfInBounds off v) = w.setCell ⟨b, off, none⟩ v := by
    refine World.eq_of ?_ rfl rfl rfl rfl
    apply Array.ext_getElem?
    intro j
    by_cases e : j = b
    · subst e; rw [setBlk_same _ j _ c0 t _ hb, Joins.block_setCell (i := off) hb]
    · rw [setBlk_block _ _ _ _ e, Below.heap_setCell _ _ _ _ e]
  rw [e]
  obtain ⟨u, hu⟩ := Option.isSome_iff_exists.1 hcell
  simp only [Instr.storeAt, Instr.sureAddr, storeVar, Sem.run_bind, Sem.run_pure, Result.andThen_ok, hsz, hc.1]
  have hst : (store ⟨b, off, none⟩ v).run Try.prog w = .ok () (w.setCell ⟨b, off, none⟩ v) := by rw [run_store _ _ _ _ _ hc.2, hu]; simp [hfr]
  simp [storeCells, go_sem, hst]
end
end Go.Proofs.Ytacglcpjbepfnaa

/- A region that draws its order, with loud operations in one order, whose reads may be of what the loud ones change: a read that every loud one stands behind reads the things as they are (a swap: s[i], s[j] = s[j], s[i]). -/
namespace Go.Proofs.Ytacglcpjbepfnaa
open Go.RowKit
set_option linter.unusedVariables false
section
variable {P : Program} {ops : Array Oper} {md : Region.Mode} {W : World} {G : List Thing → Prop} {loud : List Nat}
def WholeE (P : Program) (md : Region.Mode) (ops : Array Oper) (W : World) (G : List Thing → Prop) (loud : List Nat) (K : List Thing → Act → Prop) : Nat → List Thing → Array Bool → Act → Prop
  | 0, l, listed, a => Region.ready md ops listed = [] ∧ K l a
  | f + 1, l, listed, a => Region.ready md ops listed ≠ [] ∧ ∀ i ∈ Region.ready md ops listed, ∃ o, ops[i]? = some o ∧
      ((∃ v, YieldsG P ops W (fun l' => l' = l) o v a ∧ WholeE P md ops W G loud K f l (listed.setIfInBounds i true) (a.put o.dst v)) ∨
       (loud.contains i = true ∧ LoudG P ops W o l a fun l' u => G l' ∧ WholeE P md ops W G loud K f l' (listed.setIfInBounds i true) (a.put o.dst u)))
theorem WholeE.any {K : List Thing → Act → Prop} {Q : Exit → Act → World → Prop} (hK : ∀ l a w, Heap W l w → K l a → Q .normal a w) :
    ∀ (f : Nat) (l : List Thing) (listed : Array Bool) (a : Act) (w : World), Heap W l w → WholeE P md ops W G loud K f l listed a → wpAny P md ops Q f listed a w := by
  intro f
  induction f with
  | zero => intro l listed a w H h; exact ⟨h.1, hK _ _ _ H h.2⟩
  | succ f ih =>
    intro l listed a w H h
    refine ⟨fun h0 => absurd h0 h.1, fun i hi => ?_⟩
    obtain ⟨o, ho, h⟩ := h.2 i hi
    rcases h with ⟨v, hy, h⟩ | ⟨_, h⟩
    · refine wpOp_of_qOp (C := fun w' => ∃ d, w' = H.any d) (H.any_of H) (fun a' w' hw' ha' => ?_) ((hy l rfl w H).qOp ho (K := fun a' => a' = a.put o.dst v) rfl)
      obtain ⟨d, rfl⟩ := hw'
      subst ha'
      exact ih _ _ _ _ (H.any_heap d) h
    · obtain ⟨l', u, w', hr, H', _, hk⟩ := h.2 w H
      unfold wpOp
      simp only [ho]
      rw [if_pos h.1]
      refine .inl ?_
      unfold Oper.wp
      rcases hr with hr | ⟨hr, rfl⟩ <;> rw [hr] <;> exact ih _ _ _ _ H' hk
/-- Every loud one stands behind it. -/
def Region.early (md : Region.Mode) (ops : Array Oper) (loud : List Nat) (k : Nat) : Bool := loud.all fun j => match ops[j]? with
  | some o => o.after.any fun e => Region.binds md e && e.on == k
  | none => true
theorem Region.early_spec {k j : Nat} {o : Oper} (h : Region.early md ops loud k = true) (hj : loud.contains j = true) (ho : ops[j]? = some o) : ∃ e ∈ o.after, Region.binds md e = true ∧ e.on = k := by
  unfold Region.early at h
  rw [List.all_eq_true] at h
  have := h j (by simpa using hj)
  rw [ho] at this
  simp only [Array.any_eq_true, Bool.and_eq_true, beq_iff_eq] at this
  obtain ⟨i, hi, h1, h2⟩ := this
  exact ⟨o.after[i], Array.getElem_mem hi, h1, h2⟩
/-- It yields v: whatever the things, or early, as they are. -/
def Firm (P : Program) (md : Region.Mode) (ops : Array Oper) (W : World) (G : List Thing → Prop) (loud : List Nat) (k : Nat) (l : List Thing) (o : Oper) (v : Value) (a : Act) : Prop :=
  (G l ∧ YieldsG P ops W G o v a) ∨ (Region.early md ops loud k = true ∧ YieldsG P ops W (fun l' => l' = l) o v a)
theorem Firm.now {k : Nat} {l : List Thing} {o : Oper} {v : Value} {a : Act} (h : Firm P md ops W G loud k l o v a) : YieldsG P ops W (fun l' => l' = l) o v a := by
  rcases h with ⟨hg, h⟩ | ⟨_, h⟩
  · intro l' e w H; subst e; exact h _ hg w H
  · exact h
theorem Firm.of_same {k : Nat} {l : List Thing} {o : Oper} {v : Value} {a a' : Act} (h : Firm P md ops W G loud k l o v a) (he : execOp a'.eval o = execOp a.eval o)
    (hw : Region.wanted o (yielded ops a'.tmps) = Region.wanted o (yielded ops a.tmps)) : Firm P md ops W G loud k l o v a' := by
  rcases h with ⟨hg, h⟩ | ⟨h0, h⟩
  · exact .inl ⟨hg, h.of_same he hw⟩
  · exact .inr ⟨h0, h.of_same he hw⟩
theorem WholeE.first {i : Nat} {oi : Oper} {v : Value} {K : List Thing → Act → Prop} (hi : ops[i]? = some oi) (hsel : ∀ (j : Nat) (o : Oper) cs b, ops[j]? = some o → o.op ≠ .select cs b) :
    ∀ (f : Nat) (l : List Thing) (listed : Array Bool) (a : Act),
      (∀ j oj, ops[j]? = some oj → j ≠ i → listed.getD j true = false → (∀ e ∈ oj.after, Region.binds md e = true → e.on ≠ i) → oi.apart ops oj = true) →
      i ∈ Region.ready md ops listed → Firm P md ops W G loud i l oi v a → WholeE P md ops W G loud K f l (listed.setIfInBounds i true) (a.put oi.dst v) → WholeE P md ops W G loud K (f + 1) l listed a := by
  intro f
  induction f with
  | zero =>
    intro l listed a _ hr hy H
    refine ⟨fun h => by rw [h] at hr; simp at hr, fun j hj => ?_⟩
    by_cases e : j = i
    · subst e; exact ⟨oi, hi, .inl ⟨v, hy.now, H⟩⟩
    · have := ready_mono hj e
      rw [H.1] at this; cases this
  | succ f ih =>
    intro l listed a hfree hr hy H
    have hun := (mem_ready.1 hr).1
    refine ⟨fun h => by rw [h] at hr; simp at hr, fun j hj => ?_⟩
    by_cases e : j = i
    · subst e; exact ⟨oi, hi, .inl ⟨v, hy.now, H⟩⟩
    · obtain ⟨hjun, oj, hoj, hall⟩ := mem_ready.1 hj
      have hnot : ∀ e ∈ oj.after, Region.binds md e = true → e.on ≠ i := fun e he hb heq => by
        have := hall e he hb
        rw [heq, getD_both hun] at this
        cases this
      obtain ⟨h1, h2, h3⟩ := Oper.apart_spec (hfree j oj hoj e hjun hnot)
      have hsi := fun cs b => hsel i oi cs b hi
      have hsj := fun cs b => hsel j oj cs b hoj
      have hfree' : ∀ k ok, ops[k]? = some ok → k ≠ i → (listed.setIfInBounds j true).getD k true = false →
          (∀ e ∈ ok.after, Region.binds md e = true → e.on ≠ i) → oi.apart ops ok = true := fun k ok hk hki hun hno => by
        refine hfree k ok hk hki ?_ hno
        by_cases hjk : j = k
        · subst hjk; exact hjun
        · rw [getD_set_ne true hjk] at hun; exact hun
      obtain ⟨o', ho', h⟩ := H.2 j (ready_mono hj e)
      obtain rfl : o' = oj := Option.some.inj (ho'.symm.trans hoj)
      refine ⟨o', hoj, ?_⟩
      rcases h with ⟨u, hu, h⟩ | ⟨hl, h⟩
      · refine .inl ⟨u, hu.of_same (execOp_put o' hsj a oi.dst v h1).symm (wanted_put o' a oi.dst v h1).symm, ih _ _ _ hfree' (ready_mono hr (Ne.symm e)) (hy.of_same (execOp_put oi hsi a o'.dst u h3) (wanted_put oi a o'.dst u h3)) ?_⟩
        rw [Array.setIfInBounds_comm _ _ e, ← Act.put_comm a v _ h2]
        exact h
      · rcases hy with ⟨hg, hy⟩ | ⟨he, _⟩
        · refine .inr ⟨hl, (h.of_same (execOp_put o' hsj a oi.dst v h1).symm (wanted_put o' a oi.dst v h1).symm).mono fun l' u ⟨hg', h⟩ => ⟨hg', ih _ _ _ hfree' (ready_mono hr (Ne.symm e)) (.inl ⟨hg', hy.of_same (execOp_put oi hsi a o'.dst u h3) (wanted_put oi a o'.dst u h3)⟩) ?_⟩⟩
          rw [Array.setIfInBounds_comm _ _ e, ← Act.put_comm a v _ h2]
          exact h
        · obtain ⟨ed, hed, hb, hon⟩ := Region.early_spec he hl hoj
          exact absurd hon (hnot ed hed hb)
/-- The walk in an order of one's own. -/
def wpE (P : Program) (ops : Array Oper) (W : World) (G : List Thing → Prop) (loud : List Nat) (K : List Thing → Act → Prop) : List Nat → List Thing → Act → Prop
  | [], l, a => K l a
  | k :: ks, l, a => ∃ o, ops[k]? = some o ∧ if loud.contains k then LoudG P ops W o l a fun l' u => G l' ∧ wpE P ops W G loud K ks l' (a.put o.dst u)
      else ∃ v, Firm P .any ops W G loud k l o v a ∧ wpE P ops W G loud K ks l (a.put o.dst v)
theorem WholeE.lexO {K : List Thing → Act → Prop} (hsel : Region.noSelect ops = true) :
    ∀ (ks : List Nat) (l : List Thing) (listed : Array Bool) (a : Act), Region.lexO .any ops loud ks listed = true → wpE P ops W G loud K ks l a → WholeE P .any ops W G loud K ks.length l listed a := by
  intro ks
  induction ks with
  | nil => intro l listed a hB h; exact ⟨by simpa [Region.lexO] using hB, h⟩
  | cons k ks ih =>
    intro l listed a hB h
    obtain ⟨o, h0, h⟩ := h
    rw [Region.lexO] at hB
    simp only [Bool.and_eq_true] at hB
    obtain ⟨hB, hB'⟩ := hB
    by_cases hk : loud.contains k = true
    · rw [if_pos hk] at h hB
      have hr : Region.ready .any ops listed = [k] := by simpa using hB
      refine ⟨by rw [hr]; simp, fun i hi => ?_⟩
      rw [hr] at hi
      obtain rfl : i = k := by simpa using hi
      exact ⟨o, h0, .inr ⟨hk, h.mono fun l' u ⟨hg, h⟩ => ⟨hg, ih _ _ _ hB' h⟩⟩⟩
    · rw [if_neg hk] at h hB
      simp only [Bool.and_eq_true] at hB
      obtain ⟨v, hy, h⟩ := h
      exact WholeE.first h0 (Region.noSelect_spec hsel) ks.length l listed a (Region.free_spec h0 hB.2) (by simpa using hB.1) hy (ih _ _ _ hB' h)
theorem yields_of {G' : List Thing → Prop} {lo : List Oper} {o : Oper} {a : Act} {s : Nat} {v : Value} (hd : o.dst = some s) (hlt : s < a.tmps.size)
    (h1 : ∀ l0, G' l0 → ∀ (w0 : World) (H0 : Heap W l0 w0), wpQuiet P lo.toArray (fun w' => ∃ d, w' = H0.any d) (fun a' => a'.tmps.getD s undef = v) [o] a) : YieldsG P lo.toArray W G' o v a := by
  have inj : ∀ u, (a.put o.dst u).tmps.getD s undef = v → u = v := fun u h => by
    rw [hd] at h
    simp [Act.put, hlt] at h
    exact h
  intro l0 hl0 w0 H0
  have h := h1 l0 hl0 w0 H0
  unfold wpQuiet at h
  by_cases hw : Region.wanted o (yielded lo.toArray a.tmps) = true
  · rw [if_pos hw] at h
    obtain ⟨u, hu, hk⟩ := h
    obtain rfl := inj u hk
    exact .inl ⟨hw, hu⟩
  · rw [if_neg hw] at h
    exact .inr ⟨by simpa using hw, (inj undef h).symm⟩
end
section
variable {ops : Array Oper} {W : World} {loud : List Nat} {K : List Thing → Act → Prop} {l : List Thing} {a : Act}
end
end Go.Proofs.Ytacglcpjbepfnaa

/- Offers in lists: rows; two lists with the same content are the same. -/
namespace Go.Proofs.Ytacglcpjbepfnaa
open Go.RowKit
set_option linter.unusedSimpArgs false
set_option linter.unusedVariables false
def ofrV (r : Ofr) : List Value := [.int .u64 r.sq, .int .u8 r.ow, .int .u8 r.se, .int .u8 r.bu, .int .i64 r.le, .int .i64 r.nu, .int .i64 r.de]
def ofrA (r : Ofr) : Array Value := (ofrV r).toArray
def ofrL (L : List Ofr) : List Value := L.flatMap ofrV
theorem ofrL_len (L : List Ofr) : (ofrL L).length = L.length * 7 := by
  unfold ofrL
  induction L with
  | nil => rfl
  | cons x L ih => rw [List.flatMap_cons, List.length_append, ih, List.length_cons]; simp [ofrV]; omega
theorem ofrL_at (L : List Ofr) (i : Nat) (h : i < L.length) : ((ofrL L).drop (i * 7)).take 7 = ofrV L[i] := by
  unfold ofrL
  induction L generalizing i with
  | nil => simp at h
  | cons x L ih =>
    rw [List.flatMap_cons]
    cases i with
    | zero => simp [ofrV]
    | succ i =>
      rw [show (i + 1) * 7 = (ofrV x).length + i * 7 by simp [ofrV]; omega, ← List.drop_drop, List.drop_left]
      simpa using ih i (by simpa using h)
theorem ofrL_ones (L : List Ofr) : OneCells (ofrL L) := fun u hu => by
  unfold ofrL at hu
  rw [List.mem_flatMap] at hu
  obtain ⟨x, _, hx⟩ := hu
  simp only [ofrV, List.mem_cons, List.not_mem_nil, or_false] at hx
  rcases hx with rfl | rfl | rfl | rfl | rfl | rfl | rfl <;> rfl
theorem ofrA_sz (r : Ofr) : (ofrA r).size = 7 := rfl
theorem ofrA_all (r : Ofr) : (ofrA r).extract 0 (0 + 7) = ofrA r := by simp [ofrA, ofrV]
theorem ofrL_get (L : List Ofr) (i : Nat) (h : i < L.length) : (((ofrL L).drop (i * 7)).take 7).toArray = ofrA L[i] := by rw [ofrL_at L i h]; rfl
theorem row_ofr : RowTy 83 7 (ofrA ⟨0, 0, 0, 0, 0, 0, 0⟩) := ⟨⟨_, Try.underlying83, rfl⟩, by kernel_rfl, by kernel_rfl⟩
theorem eqO_run (d : Nat) (r : Ofr) (w : World) : (Op.equalIn (d + 3) 83 (.agg (ofrA r)) (.agg (ofrA r))).run Try.prog w = .ok true w := by
  unfold ofrA ofrV
  rw [run_equalIn_struct w (d + 2) 83 _ _ (by kernel_rfl) (by kernel_rfl)]
  have hu0 := Try.underlying79
  have hu1 := Try.underlying23
  have hu2 := Try.underlying24
  have hu3 := Try.underlying2
  have hu4 := Try.underlying81
  simp [go_sem, Try.underlying83, hu0, hu1, hu2, hu3, hu4]
theorem neqO_run (r : Ofr) (w : World) : (binOp .neq 83 (.agg (ofrA r)) (.agg (ofrA r))).run Try.prog w = .ok (.bool false) w := by
  have h : (Op.equal 83 (.agg (ofrA r)) (.agg (ofrA r))).run Try.prog w = .ok true w := eqO_run 9997 r w
  simp only [binOp]
  simp [Sem.run_bind, h]
section
variable {W w : World} {l : List Thing} {ops : Array Oper} {rest : List Oper} {a : Act}
theorem wpQ_neqO {dst : Option Tmp} {ty : TypeId} {pos : String} {after : Array Edge} {guard : Option (Nat × Bool)} {p q : Operand} {r : Ofr} {K : Act → Prop} {H : Heap W l w} (hw : Region.wanted ⟨dst, .binOp .neq 83 p q 83, ty, pos, after, guard⟩ (yielded ops a.tmps) = true) (hp : a.eval p = .agg (ofrA r)) (hq : a.eval q = .agg (ofrA r))
    (h : wpQuiet Try.prog ops (fun w' => ∃ d, w' = H.any d) K rest (a.put dst (.bool false))) : wpQuiet Try.prog ops (fun w' => ∃ d, w' = H.any d) K (⟨dst, .binOp .neq 83 p q 83, ty, pos, after, guard⟩ :: rest) a := by
  have hg : (Try.prog.eqGuardType Try.prog.depth 83) = false := by kernel_rfl
  refine BigFrame.wpQuiet_want hw fun K hK => ⟨_, ?_, hK _ h⟩
  rintro _ ⟨d, rfl⟩
  unfold Oper.quietAt execOp
  simp only [hp, hq, Sem.run_bind, neqO_run]
  simp [eqGuard, hg, neqO_run]
  exact ⟨rfl, rfl⟩
end
structure SameOL (W : World) (l : List Thing) (n : Nat) (vi : Value) (wr : World) : Prop where
  out : ∃ k : Nat, k ≤ n ∧ vi = .int .i64 (k : Int) ∧ Heap W l wr
section
variable {W w : World} {l : List Thing}
set_option maxRecDepth 100000
set_option maxHeartbeats 2000000
/-- Two lists with the same content are the same. -/
theorem sameO_P {L : List Ofr} (a b : Option Addr) (n c d : Nat) (hA : L.length = n) (hn : n ≤ 1000000) (RA : ∀ w', Heap W l w' → Rd w' a (ofrL L)) (RB : ∀ w', Heap W l w' → Rd w' b (ofrL L)) :
    AnsH W l 115 #[.slice a n c, .slice b n d] (.bool true) := by
  intro w H
  have HA := Lib.hid hA
  have HRA := Lib.hid RA
  have HRB := Lib.hid RB
  clear hA RA RB
  go_enter Try.func115, Try.ntmps115
  go_wp2_with (go_skip)
  have H0 := H
  clear H
  go_loopw [5] (fun vi wr => SameOL W l n vi wr) (fun vi _ => n - (intOf vi).toNat)
  case atStart => exact ⟨0, Nat.zero_le _, rfl, H0⟩
  case round =>
    obtain ⟨k, hk, rfl, H'⟩ := hrel.out
    clear H0 hrel
    have H := H'
    clear H'
    by_cases hlt : k < n
    · have hkA : k < L.length := by rw [HA.out]; exact hlt
      have ra := ofrL_get L k hkA
      have hlA : k * 7 + 7 ≤ (ofrL L).length := by rw [ofrL_len]; omega
      generalize L[k] = x at *
      obtain ⟨ba, oa, rfl, _⟩ := (HRA.out _ H).lt (by omega)
      obtain ⟨bb, ob, rfl, _⟩ := (HRB.out _ H).lt (by omega)
      go_wp2_with (go_skip)
      refine wp_region_H H (by kernel_rfl) (by kernel_rfl) ?_
      repeat (first | go_big_quiet_skip | (first | ((with_reducible apply wpQ_loadRdR row_ofr); (· rfl); (· rfl); (· exact HRA.out); (· rfl); (· exact hlA); (· decide); (· exact ra); (simp only [Act.put, List.setIfInBounds_toArray, List.set_cons_zero, List.set_cons_succ])) | ((with_reducible apply wpQ_loadRdR row_ofr); (· rfl); (· rfl); (· exact HRB.out); (· rfl); (· exact hlA); (· decide); (· exact ra); (simp only [Act.put, List.setIfInBounds_toArray, List.set_cons_zero, List.set_cons_succ])) | ((with_reducible apply wpQ_neqO); (· rfl); (· rfl); (· rfl); (simp only [Act.put, List.setIfInBounds_toArray, List.set_cons_zero, List.set_cons_succ]))) | go_big_quiet_step (fail))
      refine wpQuiet_nil ?_
      clear H
      intro _ H
      go_wp2_with (go_skip)
      refine ⟨⟨k + 1, by omega, by go_num, H⟩, ?measure⟩
      case measure => simp [intOf]; omega
    · obtain rfl : k = n := by omega
      go_wp2_with (go_skip)
      go_ret
      exact ⟨rfl, H⟩
end
end Go.Proofs.Ytacglcpjbepfnaa

/- The marks of a book's pages of offers; rows of offers. -/
namespace Go.Proofs.Ytacglcpjbepfnaa
open Go.RowKit
abbrev oN (n : Int) : Array Value := ofrA ⟨0, 0, 0, 0, n, 0, 0⟩
abbrev oM (n : Int) : Array Value := ofrA ⟨0, 0, 0, 0, -n, 0, 0⟩
theorem ofr_cells (o : Ofr) : Cells 7 (ofrA o) := ⟨rfl, by simp [ofrA, ofrV, Value.oneCell']⟩
theorem ofr_splice (o q : Ofr) : splice (ofrA o) 0 (ofrA q) = ofrA q := splice_all rfl
theorem slO : SlTy Try.prog 76 83 7 40 (.agg (ofrA ⟨0, 0, 0, 0, 0, 0, 0⟩)) := slTy_mk Try.underlying76 (by kernel_rfl) rfl (by decide)
theorem oN_good (n : Int) : GoodR 7 83 (oN n) := ⟨ofr_cells _, fun w => neqO_run _ w⟩
theorem oM_good (n : Int) : GoodR 7 83 (oM n) := oN_good (-n)
end Go.Proofs.Ytacglcpjbepfnaa

/- Rows of cells by their numbers; kinds of cells; a list that is answered. -/
namespace Go.Proofs.Ytacglcpjbepfnaa
open Go.RowKit
theorem cell_i64 : CellTy 2 := ⟨⟨_, Try.underlying2, rfl⟩, by kernel_rfl⟩
theorem cell_party : CellTy 23 := ⟨⟨_, Try.underlying23, rfl⟩, by kernel_rfl⟩
/-- A list that is answered: nil, if it is empty; else it lies in a block of its own. -/
def ListPost (W : World) (l : List Thing) (e size : Nat) (xs : List Value) (n : Nat) (r : Ending) (w' : World) : Prop :=
  (n = 0 ∧ r = .returned (.slice none 0 0) ∧ Heap W l w') ∨ (0 < n ∧ ∃ g c, r = .returned (.slice (some ⟨g, 0, none⟩) n n) ∧ n ≤ c ∧ Heap W (Sl g e size n c xs :: l) w')
theorem ListPost.nil {W : World} {l : List Thing} {e size n : Nat} {xs : List Value} {w' : World} (h : n = 0) (H : Heap W l w') : ListPost W l e size xs n (.returned (.slice none 0 0)) w' := .inl ⟨h, rfl, H⟩
theorem ListPost.some {W : World} {l : List Thing} {e size n : Nat} {xs : List Value} {w' : World} (h : 0 < n) (g c : Nat) (hc : n ≤ c) (H : Heap W (Sl g e size n c xs :: l) w') : ListPost W l e size xs n (.returned (.slice (some ⟨g, 0, none⟩) n n)) w' := .inr ⟨h, g, c, rfl, hc, H⟩
end Go.Proofs.Ytacglcpjbepfnaa

/- books: offers and books in memory; there, currency, may. -/
namespace Go.Proofs.Ytacglcpjbepfnaa
open Go.RowKit
set_option linter.unusedSimpArgs false
set_option linter.unusedVariables false
set_option maxRecDepth 100000
structure OfrOk (o : Ofr) : Prop where
  sq : 0 ≤ o.sq ∧ o.sq ≤ 18446744073709551615
  ow : 0 ≤ o.ow ∧ o.ow ≤ 255
  se : 0 ≤ o.se ∧ o.se ≤ 255
  bu : 0 ≤ o.bu ∧ o.bu ≤ 255
  le : -9223372036854775808 ≤ o.le ∧ o.le ≤ 9223372036854775807
  nu : -9223372036854775808 ≤ o.nu ∧ o.nu ≤ 9223372036854775807
  de : -9223372036854775808 ≤ o.de ∧ o.de ≤ 9223372036854775807
theorem ofr_g0 (r : Ofr) : (ofrA r)[0]? = some (.int .u64 r.sq) := rfl
theorem ofr_g1 (r : Ofr) : (ofrA r)[1]? = some (.int .u8 r.ow) := rfl
theorem ofr_g2 (r : Ofr) : (ofrA r)[2]? = some (.int .u8 r.se) := rfl
theorem ofr_g3 (r : Ofr) : (ofrA r)[3]? = some (.int .u8 r.bu) := rfl
theorem ofr_g4 (r : Ofr) : (ofrA r)[4]? = some (.int .i64 r.le) := rfl
theorem ofr_rat (r : Ofr) : (ofrA r).extract 5 (5 + 2) = #[.int .i64 r.nu, .int .i64 r.de] := by simp [ofrA, ofrV]
theorem row_rat : RowTy 81 2 #[.int .i64 0, .int .i64 0] := ⟨⟨_, Try.underlying81, rfl⟩, by kernel_rfl, by kernel_rfl⟩
theorem cell_u64 : CellTy 79 := ⟨⟨_, Try.underlying79, rfl⟩, by kernel_rfl⟩
theorem cell_cur : CellTy 24 := ⟨⟨_, Try.underlying24, rfl⟩, by kernel_rfl⟩
theorem cell_ofrs : CellTy 76 := ⟨⟨_, Try.underlying76, rfl⟩, by kernel_rfl⟩
abbrev bkb (l : Value) (nx : Int) : Array Value := #[l, .int .u64 nx]
section
variable (l : Value) (nx : Int)
theorem bkb_sz : (bkb l nx).size = 2 := rfl
theorem bkb_g0 : (bkb l nx)[0]? = some (l) := rfl
theorem bkb_s0 (v : Value) : (bkb l nx).setIfInBounds 0 (v) = bkb v nx := rfl
theorem bkb_g1 : (bkb l nx)[1]? = some (.int .u64 nx) := rfl
theorem bkb_s1 (v : Int) : (bkb l nx).setIfInBounds 1 (.int .u64 v) = bkb l v := rfl
end
/-- A book's block. -/
abbrev BkB (p : Nat) (v : Value) (nx : Int) : Thing := Cel p (bkb v nx) 99
/-- Offers in a row of one's own. -/
abbrev OfT (v : Value) (n : Nat) (L : List Ofr) : Thing := RowT 83 7 v n (ofrL L)
theorem mayO_no {o : Ofr} (h : ¬ ((1 ≤ o.ow ∧ o.ow ≤ 16) ∧ (1 ≤ o.se ∧ o.se ≤ 8) ∧ (1 ≤ o.bu ∧ o.bu ≤ 8) ∧ o.se ≠ o.bu ∧ (1 ≤ o.le ∧ o.le ≤ 1099511627776))) : mayO o = false := by
  rw [Bool.eq_false_iff]
  intro h2
  obtain ⟨h3, h4, h5, h6, h7, _⟩ := mayO_iff.1 h2
  exact h ⟨h3, h4, h5, h6, h7⟩
theorem mayO_rat {o : Ofr} (h : (1 ≤ o.ow ∧ o.ow ≤ 16) ∧ (1 ≤ o.se ∧ o.se ≤ 8) ∧ (1 ≤ o.bu ∧ o.bu ≤ 8) ∧ o.se ≠ o.bu ∧ (1 ≤ o.le ∧ o.le ≤ 1099511627776)) : mayO o = mayB o.nu o.de := by
  cases hb : mayB o.nu o.de with
  | true => exact mayO_iff.2 ⟨h.1, h.2.1, h.2.2.1, h.2.2.2.1, h.2.2.2.2, hb⟩
  | false =>
    rw [Bool.eq_false_iff]
    intro h2
    rw [(mayO_iff.1 h2).2.2.2.2.2] at hb
    cases hb
theorem bcur (c : Int) : Ans 128 #[.int .u8 c] (.bool (mayC c)) := by
  intro w
  unfold mayC
  by_cases h1 : 1 ≤ c
  · by_cases h2 : c ≤ 8
    all_goals
      go_enter Try.func128, Try.ntmps128
      go_wp2_with fail
      go_ret
      exact ⟨by simp [h1, h2]; try omega, (by repeat (first | exact Ext.refl _ | refine Ext.alloc ?_ _ | refine Ext.ext ?_ _ | refine Ext.drew ?_))⟩
  · go_enter Try.func128, Try.ntmps128
    go_wp2_with fail
    go_ret
    exact ⟨by simp [h1]; try omega, (by repeat (first | exact Ext.refl _ | refine Ext.alloc ?_ _ | refine Ext.ext ?_ _ | refine Ext.drew ?_))⟩
theorem bcur_yes {c : Int} (h : 1 ≤ c ∧ c ≤ 8) : Ans 128 #[.int .u8 c] (.bool true) := by
  have := bcur c
  rwa [show mayC c = true by simp [mayC, h.1, h.2]] at this
theorem bcur_no {c : Int} (h : ¬ (1 ≤ c ∧ c ≤ 8)) : Ans 128 #[.int .u8 c] (.bool false) := by
  have := bcur c
  rwa [show mayC c = false by rw [Bool.eq_false_iff]; intro h2; simp [mayC] at h2; exact h h2] at this
theorem rmay_ext (n d : Int) (h : In64p n d) : Ans 55 #[.agg #[.int .i64 n, .int .i64 d]] (.bool (mayB n d)) := fun w => (may_any n d w h.1 h.2.1 h.2.2.1 h.2.2.2).mono fun _ _ ⟨he, hb⟩ => ⟨he, hb.toBelow⟩
section
variable {W w : World} {l : List Thing} {p : Nat} {v : Value} {nx : Int}
set_option maxHeartbeats 4000000
theorem bthere_yes (m : BkB p v nx ∈ l) (h : 0 < nx) : AnsH W l 99 #[.pointer (some ⟨p, 0, none⟩)] (.bool true) := by
  intro w H
  have d1 : decide (nx > 0) = true := decide_eq_true h
  have d2 : decide (0 < nx) = true := decide_eq_true h
  clear h
  go_enter Try.func99, Try.ntmps99
  go_wp2_with (first | go_skip | ((with_reducible show wpList _ _ _ (_ :: _) _ _); (with_reducible apply wpl_loadCH); (· exact cell_u64); (· rfl); (· rfl); (· exact H); (· exact m); (· exact bkb_g1 ..); (simp only [Act.put, List.setIfInBounds_toArray, List.set_cons_zero, List.set_cons_succ])))
  go_ret
  exact ⟨rfl, H⟩
theorem bthere_zero (m : BkB p v 0 ∈ l) : AnsH W l 99 #[.pointer (some ⟨p, 0, none⟩)] (.bool false) := by
  intro w H
  go_enter Try.func99, Try.ntmps99
  go_wp2_with (first | go_skip | ((with_reducible show wpList _ _ _ (_ :: _) _ _); (with_reducible apply wpl_loadCH); (· exact cell_u64); (· rfl); (· rfl); (· exact H); (· exact m); (· exact bkb_g1 ..); (simp only [Act.put, List.setIfInBounds_toArray, List.set_cons_zero, List.set_cons_succ])))
  go_ret
  exact ⟨rfl, H⟩
theorem bmay_H (o : Ofr) (hk : OfrOk o) : AnsH W l 110 #[.agg (ofrA o)] (.bool (mayO o)) := by
  intro w H
  obtain ⟨k0, k1, k2, k3, k4, k5, k6⟩ := hk
  by_cases h1 : o.ow < 1
  · rw [mayO_no (by omega)]
    have d1 : decide (o.ow < 1) = true := decide_eq_true h1
    go_enter Try.func110, Try.ntmps110
    go_wp2_with (first | go_skip | ((with_reducible show wpList _ _ _ (_ :: _) _ _); (with_reducible apply wpl_boxRH); (· rfl); (· rfl); (· exact H); (clear H; intro px _ H); (simp only [Act.put, List.setIfInBounds_toArray, List.set_cons_zero, List.set_cons_succ])) | ((with_reducible show wpList _ _ _ (_ :: _) _ _); (with_reducible apply wpl_loadCH); (· first | exact cell_u64 | exact cell_party | exact cell_cur | exact cell_i64); (· rfl); (· rfl); (· exact H); (· (repeat (first | (with_reducible exact List.mem_cons_self) | with_reducible apply List.mem_cons_of_mem))); (· with_reducible first | exact ofr_g0 .. | exact ofr_g1 .. | exact ofr_g2 .. | exact ofr_g3 .. | exact ofr_g4 ..); (simp only [Act.put, List.setIfInBounds_toArray, List.set_cons_zero, List.set_cons_succ])))
    go_ret
    exact ⟨rfl, H.tail⟩
  · have d1 : decide (o.ow < 1) = false := decide_eq_false h1
    by_cases h2 : 16 < o.ow
    · rw [mayO_no (by omega)]
      have d2 : decide (o.ow > 16) = true := decide_eq_true h2
      have d2' : decide (16 < o.ow) = true := decide_eq_true h2
      go_enter Try.func110, Try.ntmps110
      go_wp2_with (first | go_skip | ((with_reducible show wpList _ _ _ (_ :: _) _ _); (with_reducible apply wpl_boxRH); (· rfl); (· rfl); (· exact H); (clear H; intro px _ H); (simp only [Act.put, List.setIfInBounds_toArray, List.set_cons_zero, List.set_cons_succ])) | ((with_reducible show wpList _ _ _ (_ :: _) _ _); (with_reducible apply wpl_loadCH); (· first | exact cell_u64 | exact cell_party | exact cell_cur | exact cell_i64); (· rfl); (· rfl); (· exact H); (· (repeat (first | (with_reducible exact List.mem_cons_self) | with_reducible apply List.mem_cons_of_mem))); (· with_reducible first | exact ofr_g0 .. | exact ofr_g1 .. | exact ofr_g2 .. | exact ofr_g3 .. | exact ofr_g4 ..); (simp only [Act.put, List.setIfInBounds_toArray, List.set_cons_zero, List.set_cons_succ])))
      go_ret
      exact ⟨rfl, H.tail⟩
    · have d2 : decide (o.ow > 16) = false := decide_eq_false h2
      have d2' : decide (16 < o.ow) = false := decide_eq_false h2
      by_cases h3 : 1 ≤ o.se ∧ o.se ≤ 8
      · have c3 := bcur_yes h3
        by_cases h4 : 1 ≤ o.bu ∧ o.bu ≤ 8
        · have c4 := bcur_yes h4
          by_cases h5 : o.se = o.bu
          · rw [mayO_no (by omega)]
            have d5 : (o.se == o.bu) = true := by simpa using h5
            clear h5 h3 h4
            go_enter Try.func110, Try.ntmps110
            go_wp2_with (first | go_skip | ((with_reducible show wpList _ _ _ (_ :: _) _ _); (with_reducible apply wpl_boxRH); (· rfl); (· rfl); (· exact H); (clear H; intro px _ H); (simp only [Act.put, List.setIfInBounds_toArray, List.set_cons_zero, List.set_cons_succ])) | ((with_reducible refine Ans.callH (by assumption) H ?_); clear H; intro _ H) | ((with_reducible show wpList _ _ _ (_ :: _) _ _); (with_reducible apply wpl_loadCH); (· first | exact cell_u64 | exact cell_party | exact cell_cur | exact cell_i64); (· rfl); (· rfl); (· exact H); (· (repeat (first | (with_reducible exact List.mem_cons_self) | with_reducible apply List.mem_cons_of_mem))); (· with_reducible first | exact ofr_g0 .. | exact ofr_g1 .. | exact ofr_g2 .. | exact ofr_g3 .. | exact ofr_g4 ..); (simp only [Act.put, List.setIfInBounds_toArray, List.set_cons_zero, List.set_cons_succ])))
            go_ret
            exact ⟨rfl, H.tail⟩
          · have d5 : (o.se == o.bu) = false := by simpa using h5
            by_cases h6 : 1 ≤ o.le
            · have d6 : decide (o.le ≥ 1) = true := decide_eq_true h6
              have d6' : decide (1 ≤ o.le) = true := decide_eq_true h6
              by_cases h7 : o.le ≤ 1099511627776
              · rw [mayO_rat ⟨by omega, h3, h4, h5, h6, h7⟩]
                have d7 : decide (o.le ≤ 1099511627776) = true := decide_eq_true h7
                have c8 := rmay_ext o.nu o.de ⟨k5.1, k5.2, k6.1, k6.2⟩
                clear h3 h4 h5 h6 h7
                go_enter Try.func110, Try.ntmps110
                go_wp2_with (first | go_skip | ((with_reducible show wpList _ _ _ (_ :: _) _ _); (with_reducible apply wpl_boxRH); (· rfl); (· rfl); (· exact H); (clear H; intro px _ H); (simp only [Act.put, List.setIfInBounds_toArray, List.set_cons_zero, List.set_cons_succ])) | ((with_reducible refine Ans.callH (by assumption) H ?_); clear H; intro _ H) | ((with_reducible show wpList _ _ _ (_ :: _) _ _); (with_reducible apply wpl_loadCH); (· first | exact cell_u64 | exact cell_party | exact cell_cur | exact cell_i64); (· rfl); (· rfl); (· exact H); (· (repeat (first | (with_reducible exact List.mem_cons_self) | with_reducible apply List.mem_cons_of_mem))); (· with_reducible first | exact ofr_g0 .. | exact ofr_g1 .. | exact ofr_g2 .. | exact ofr_g3 .. | exact ofr_g4 ..); (simp only [Act.put, List.setIfInBounds_toArray, List.set_cons_zero, List.set_cons_succ])) | ((with_reducible show wpList _ _ _ (_ :: _) _ _); (with_reducible apply wpl_loadRH row_rat); (· rfl); (· rfl); (· exact H); (· (repeat (first | (with_reducible exact List.mem_cons_self) | with_reducible apply List.mem_cons_of_mem))); (· (simp only [ofrA_sz, Nat.reduceAdd, Nat.reduceLeDiff, Nat.le_refl]; done)); (· with_reducible exact ofr_rat ..); (simp only [Act.put, List.setIfInBounds_toArray, List.set_cons_zero, List.set_cons_succ])))
                go_ret
                exact ⟨rfl, H.tail⟩
              · rw [mayO_no (by omega)]
                have d7 : decide (o.le ≤ 1099511627776) = false := decide_eq_false h7
                clear h3 h4 h5 h6 h7
                go_enter Try.func110, Try.ntmps110
                go_wp2_with (first | go_skip | ((with_reducible show wpList _ _ _ (_ :: _) _ _); (with_reducible apply wpl_boxRH); (· rfl); (· rfl); (· exact H); (clear H; intro px _ H); (simp only [Act.put, List.setIfInBounds_toArray, List.set_cons_zero, List.set_cons_succ])) | ((with_reducible refine Ans.callH (by assumption) H ?_); clear H; intro _ H) | ((with_reducible show wpList _ _ _ (_ :: _) _ _); (with_reducible apply wpl_loadCH); (· first | exact cell_u64 | exact cell_party | exact cell_cur | exact cell_i64); (· rfl); (· rfl); (· exact H); (· (repeat (first | (with_reducible exact List.mem_cons_self) | with_reducible apply List.mem_cons_of_mem))); (· with_reducible first | exact ofr_g0 .. | exact ofr_g1 .. | exact ofr_g2 .. | exact ofr_g3 .. | exact ofr_g4 ..); (simp only [Act.put, List.setIfInBounds_toArray, List.set_cons_zero, List.set_cons_succ])))
                go_ret
                exact ⟨rfl, H.tail⟩
            · rw [mayO_no (by omega)]
              have d6 : decide (o.le ≥ 1) = false := decide_eq_false h6
              have d6' : decide (1 ≤ o.le) = false := decide_eq_false h6
              clear h3 h4 h5 h6
              go_enter Try.func110, Try.ntmps110
              go_wp2_with (first | go_skip | ((with_reducible show wpList _ _ _ (_ :: _) _ _); (with_reducible apply wpl_boxRH); (· rfl); (· rfl); (· exact H); (clear H; intro px _ H); (simp only [Act.put, List.setIfInBounds_toArray, List.set_cons_zero, List.set_cons_succ])) | ((with_reducible refine Ans.callH (by assumption) H ?_); clear H; intro _ H) | ((with_reducible show wpList _ _ _ (_ :: _) _ _); (with_reducible apply wpl_loadCH); (· first | exact cell_u64 | exact cell_party | exact cell_cur | exact cell_i64); (· rfl); (· rfl); (· exact H); (· (repeat (first | (with_reducible exact List.mem_cons_self) | with_reducible apply List.mem_cons_of_mem))); (· with_reducible first | exact ofr_g0 .. | exact ofr_g1 .. | exact ofr_g2 .. | exact ofr_g3 .. | exact ofr_g4 ..); (simp only [Act.put, List.setIfInBounds_toArray, List.set_cons_zero, List.set_cons_succ])))
              go_ret
              exact ⟨rfl, H.tail⟩
        · rw [mayO_no (by omega)]
          have c4 := bcur_no h4
          clear h3 h4
          go_enter Try.func110, Try.ntmps110
          go_wp2_with (first | go_skip | ((with_reducible show wpList _ _ _ (_ :: _) _ _); (with_reducible apply wpl_boxRH); (· rfl); (· rfl); (· exact H); (clear H; intro px _ H); (simp only [Act.put, List.setIfInBounds_toArray, List.set_cons_zero, List.set_cons_succ])) | ((with_reducible refine Ans.callH (by assumption) H ?_); clear H; intro _ H) | ((with_reducible show wpList _ _ _ (_ :: _) _ _); (with_reducible apply wpl_loadCH); (· first | exact cell_u64 | exact cell_party | exact cell_cur | exact cell_i64); (· rfl); (· rfl); (· exact H); (· (repeat (first | (with_reducible exact List.mem_cons_self) | with_reducible apply List.mem_cons_of_mem))); (· with_reducible first | exact ofr_g0 .. | exact ofr_g1 .. | exact ofr_g2 .. | exact ofr_g3 .. | exact ofr_g4 ..); (simp only [Act.put, List.setIfInBounds_toArray, List.set_cons_zero, List.set_cons_succ])))
          go_ret
          exact ⟨rfl, H.tail⟩
      · rw [mayO_no (by omega)]
        have c3 := bcur_no h3
        clear h3
        go_enter Try.func110, Try.ntmps110
        go_wp2_with (first | go_skip | ((with_reducible show wpList _ _ _ (_ :: _) _ _); (with_reducible apply wpl_boxRH); (· rfl); (· rfl); (· exact H); (clear H; intro px _ H); (simp only [Act.put, List.setIfInBounds_toArray, List.set_cons_zero, List.set_cons_succ])) | ((with_reducible refine Ans.callH (by assumption) H ?_); clear H; intro _ H) | ((with_reducible show wpList _ _ _ (_ :: _) _ _); (with_reducible apply wpl_loadCH); (· first | exact cell_u64 | exact cell_party | exact cell_cur | exact cell_i64); (· rfl); (· rfl); (· exact H); (· (repeat (first | (with_reducible exact List.mem_cons_self) | with_reducible apply List.mem_cons_of_mem))); (· with_reducible first | exact ofr_g0 .. | exact ofr_g1 .. | exact ofr_g2 .. | exact ofr_g3 .. | exact ofr_g4 ..); (simp only [Act.put, List.setIfInBounds_toArray, List.set_cons_zero, List.set_cons_succ])))
        go_ret
        exact ⟨rfl, H.tail⟩
end
end Go.Proofs.Ytacglcpjbepfnaa

/- clear of a slice; []T{}. -/
namespace Go.Proofs.Ytacglcpjbepfnaa
open Go.RowKit
set_option linter.unusedSimpArgs false
set_option linter.unusedVariables false
section
variable {ops : Array Oper} {rest : List Oper} {o : Oper} {a : Act} {w W : World} {l : List Thing} {Q : Exit → Act → World → Prop}
theorem wpl_clearC {t e size bytes : Nat} {z : Value} (T : SlTy Try.prog t e size bytes z) (hz1 : ∀ u ∈ z.cells, u.oneCell' = true) (hgd : o.guard = none) {x : Operand}
    (ho : o.op = .call { callee := .builtin .clear, args := #[x], argTypes := #[t] }) {g off n c e' : Nat} (hx : a.eval x = .slice (some ⟨g, off, none⟩) n c)
    {cur : Array Value} (H : Heap W (Cel g cur e' :: l) w) (hfit : off + n * size ≤ cur.size)
    (h : ∀ c1 w', c1.size = cur.size → c1.toList.take off = cur.toList.take off → Heap W (Cel g c1 e' :: l) w' → wpList Try.prog ops Q rest (a.put o.dst (.tuple #[])) w') : wpList Try.prog ops Q (o :: rest) a w := by
  refine wpList_plain hgd fun K hK => ?_
  have hg := H.blk List.mem_cons_self
  obtain ⟨i, hi, hz, hsi, hbi⟩ := T.inf
  have r2 : ∀ w, (zeroValue e).run Try.prog w = .ok z w := fun w => by simp [zeroValue, typeInfo, hi, hz, go_sem]
  rcases n with _ | n
  · have hr : (Builtin.clear_ #[t] o.type #[.slice (some ⟨g, off, none⟩) 0 c]).run Try.prog w = .ok (.tuple #[]) w := by
      simp [Builtin.clear_, run_underlying T.und]
    unfold Oper.wp execOp
    simp only [ho, resolve, invoke, builtin, Sem.run_bind, Sem.run_pure, Result.andThen_ok, List.map_toArray, List.map_cons, List.map_nil, hx, hr]
    exact hK _ _ (h _ _ rfl rfl H)
  · have hs : (Builtin.zeroCells z.cells (n + 1)).size = (n + 1) * size := by simp [Builtin.zeroCells, T.zc]
    have h1 : ∀ v ∈ (Builtin.zeroCells z.cells (n + 1)).toList, v.oneCell' = true := by
      intro v hv
      simp only [Builtin.zeroCells, Array.toList_map, Array.toList_range, List.mem_map, List.mem_range] at hv
      obtain ⟨j, hj, rfl⟩ := hv
      have hp : 0 < z.cells.size := by rw [T.zc]; exact T.pos
      have hlt : j % z.cells.size < z.cells.size := Nat.mod_lt _ hp
      rw [getElem!_pos z.cells _ hlt]
      exact hz1 _ (Array.getElem_mem hlt)
    have hst := run_storeCells_at Try.prog g off e' (Builtin.zeroCells z.cells (n + 1)).toList 0 cur w hg (by simp [hs]; exact hfit) h1
    simp only [Nat.add_zero] at hst
    have hr : (Builtin.clear_ #[t] o.type #[.slice (some ⟨g, off, none⟩) (n + 1) c]).run Try.prog w = .ok (.tuple #[]) (w.setRow g (cur.toList.take off ++ (Builtin.zeroCells z.cells (n + 1)).toList ++ cur.toList.drop (off + (Builtin.zeroCells z.cells (n + 1)).toList.length)).toArray) := by
      simp only [Builtin.clear_]
      simp [run_underlying T.und, r2, hst]
    unfold Oper.wp execOp
    simp only [ho, resolve, invoke, builtin, Sem.run_bind, Sem.run_pure, Result.andThen_ok, List.map_toArray, List.map_cons, List.map_nil, hx, hr]
    refine hK _ _ (h _ _ ?_ ?_ (H.head ⟨rfl, rfl, rfl, by simp, fun k _ hk => setRow_other w g k _ (fun e => hk (by show some k = some g; rw [e]))⟩ (setRow_heap w g cur _ e' _ hg) (.inl rfl)))
    · simp [hs]; omega
    · have hA : (cur.toList.take off).length = off := by simp; omega
      simp only [List.append_assoc]
      rw [List.take_append_of_le_length (by rw [hA]; exact Nat.le_refl _), List.take_of_length_le (by rw [hA]; exact Nat.le_refl _)]
theorem wpl_bs0 {dst : Option Tmp} {ty : TypeId} {pos : String} {after : Array Edge} {guard : Option (Nat × Bool)} {t e : Nat} (hw : Region.wanted ⟨dst, .buildSlice t 0 #[], ty, pos, after, guard⟩ (yielded ops a.tmps) = true)
    {size bytes : Nat} {z : Value} (T : SlTy Try.prog t e size bytes z) (H : Heap W l w)
    (h : ∀ p w', Heap W (Cel p #[] e :: l) w' → wpList Try.prog ops Q rest (a.put dst (.slice (some ⟨p, 0, none⟩) 0 0)) w') : wpList Try.prog ops Q (⟨dst, .buildSlice t 0 #[], ty, pos, after, guard⟩ :: rest) a w := by
  obtain ⟨i, hi, hz, hsi, hbi⟩ := T.inf
  have r1 : ∀ w, (sizeOf e).run Try.prog w = .ok i.size w := fun w => by simp [sizeOf, typeInfo, hi, go_sem]
  have r2 : ∀ w, (zeroValue e).run Try.prog w = .ok z w := fun w => by simp [zeroValue, typeInfo, hi, hz, go_sem]
  refine BigFrame.wpList_want hw fun K hK => ?_
  have hrun : (Instr.buildSlice t 0 (#[].map fun ((i, x) : Nat × Operand) => (i, a.eval x))).run Try.prog w = .ok (.slice (some ⟨w.heap.size, 0, none⟩) 0 0) (w.alloc (.cells #[] e)) := by
    unfold Instr.buildSlice
    rw [Sem.run_bind, run_underlying T.und]
    simp only [Result.andThen_ok]
    rw [Sem.run_bind, r1]
    simp only [Result.andThen_ok]
    simp [Sem.run_bind, r2, newRow, go_sem, Instr.fill]
  unfold Oper.wp execOp
  simp only [Sem.run_bind, hrun, Result.andThen_ok, Sem.run_pure]
  exact hK _ _ (h _ _ (H.alloc _ _))
end
end Go.Proofs.Ytacglcpjbepfnaa

/- books: at, Find, All, Next; slices.Clone and Clip of offers. -/
namespace Go.Proofs.Ytacglcpjbepfnaa
open Go.RowKit
set_option linter.unusedSimpArgs false
set_option linter.unusedVariables false
set_option maxRecDepth 100000
/-- Where an offer is. -/
def iO (L : List Ofr) (s : Int) : Nat := L.findIdx fun o => o.sq == s
def idxO (L : List Ofr) (s : Int) : Int := if iO L s < L.length then (iO L s : Int) else -1
theorem iO_le (L : List Ofr) (s : Int) : iO L s ≤ L.length := List.findIdx_le_length
theorem iO_at {L : List Ofr} {s : Int} (h : iO L s < L.length) : (L[iO L s].sq == s) = true := by
  exact List.findIdx_getElem (w := h) (p := fun o : Ofr => o.sq == s)
theorem iO_before {L : List Ofr} {s : Int} {k : Nat} (h : k < iO L s) {o : Ofr} (ho : L[k]? = some o) : (o.sq == s) = false := by
  have hk : k < L.length := Nat.lt_of_lt_of_le h (iO_le L s)
  have := List.not_of_lt_findIdx h
  rw [List.getElem?_eq_getElem hk] at ho
  cases ho
  simpa using this
theorem findO_iO (L : List Ofr) (s : Int) : findO L s = L[iO L s]? := by
  unfold findO iO
  induction L with
  | nil => rfl
  | cons o L ih =>
    rw [List.find?_cons, List.findIdx_cons]
    cases h : (o.sq == s) with
    | true => simp
    | false => simp [ih]
theorem idxO_some {L : List Ofr} {s : Int} {o : Ofr} (h : findO L s = some o) : idxO L s = (iO L s : Int) ∧ L[iO L s]? = some o ∧ iO L s < L.length := by
  rw [findO_iO] at h
  have h2 := (List.getElem?_eq_some_iff.1 h).1
  exact ⟨by unfold idxO; rw [if_pos h2], h, h2⟩
theorem idxO_none {L : List Ofr} {s : Int} (h : findO L s = none) : idxO L s = -1 := by
  rw [findO_iO, List.getElem?_eq_none_iff] at h
  unfold idxO
  rw [if_neg (by omega)]
/-- Offers in a row of one's own, wherever. -/
abbrev OwO (v : Value) (n : Nat) (L : List Ofr) : Thing := OwnT 83 7 v n (ofrL L)
structure IdxO (W : World) (l : List Thing) (L : List Ofr) (s : Int) (n : Nat) (i : Value) (wr : World) : Prop where
  out : ∃ k : Nat, k ≤ iO L s ∧ k ≤ n ∧ i = .int .i64 (k : Int) ∧ Heap W l wr
theorem clipO_nil : Ans 100 #[.slice none 0 0] (.slice none 0 0) := by
  intro w
  go_enter Try.func100, Try.ntmps100
  go_wp2
  go_ret
  exact ⟨rfl, (by repeat (first | exact Ext.refl _ | refine Ext.alloc ?_ _ | refine Ext.ext ?_ _ | refine Ext.drew ?_))⟩
theorem clipO_some (a : Addr) (n c : Nat) (hn : n ≤ c) (hc : c ≤ maxLen) : Ans 100 #[.slice (some a) n c] (.slice (some a) n n) := by
  intro w
  unfold maxLen at hc
  have ha : a.add 0 = a := by simp [Addr.add]
  go_enter Try.func100, Try.ntmps100
  go_wp2
  go_ret
  exact ⟨rfl, (by repeat (first | exact Ext.refl _ | refine Ext.alloc ?_ _ | refine Ext.ext ?_ _ | refine Ext.drew ?_))⟩
theorem RowT.nilO {w : World} {e size n : Nat} {v : Value} {xs : List Value} (h : (RowT e size v n xs).ok w) : ∀ n' c', v = .slice none n' c' → n' = 0 ∧ c' = 0 := by
  intro n' c' e
  rcases h.2 with ⟨h1, _⟩ | ⟨g, cap, cur, h1, _⟩
  · rw [h1] at e; cases e; exact ⟨rfl, rfl⟩
  · rw [h1] at e; cases e
theorem clipO (a : Option Addr) (n c : Nat) (hn : n ≤ c) (hm : c ≤ maxLen) (h0 : a = none → n = 0 ∧ c = 0) : Ans 100 #[.slice a n c] (.slice a n n) := by
  cases a with
  | none => obtain ⟨rfl, rfl⟩ := h0 rfl; exact clipO_nil
  | some a => exact clipO_some a n c hn hm
section
variable {W w : World} {l : List Thing}
set_option maxHeartbeats 8000000
theorem at1_H (o : Ofr) (s : Int) (px : Nat) (m : Cel px #[.int .u64 s] 79 ∈ l) :
    AnsH W l 126 #[.agg (ofrA o), .pointer (some ⟨px, 0, none⟩)] (.bool (o.sq == s)) := by
  intro w H
  have hg : ∀ x : Value, (#[x] : Array Value)[0]? = some x := fun _ => rfl
  go_enter Try.func126, Try.ntmps126
  go_wp2_with (first | go_skip | ((with_reducible show wpList _ _ _ (_ :: _) _ _); (with_reducible apply wpl_boxRH); (· rfl); (· rfl); (· exact H); (clear H; intro py _ H); (simp only [Act.put, List.setIfInBounds_toArray, List.set_cons_zero, List.set_cons_succ])) | ((with_reducible show wpList _ _ _ (_ :: _) _ _); (with_reducible apply wpl_loadCH); (· first | exact cell_u64 | exact cell_party | exact cell_cur | exact cell_i64); (· rfl); (· rfl); (· exact H); (· (repeat (first | (with_reducible exact List.mem_cons_self) | with_reducible apply List.mem_cons_of_mem))); (· with_reducible first | exact ofr_g0 .. | exact ofr_g1 .. | exact ofr_g2 .. | exact ofr_g3 .. | exact ofr_g4 ..); (simp only [Act.put, List.setIfInBounds_toArray, List.set_cons_zero, List.set_cons_succ])) | ((with_reducible show wpList _ _ _ (_ :: _) _ _); (with_reducible apply wpl_loadCH); (· exact cell_u64); (· rfl); (· rfl); (· exact H); (· exact List.mem_cons_of_mem _ m); (· exact hg _); (simp only [Act.put, List.setIfInBounds_toArray, List.set_cons_zero, List.set_cons_succ])))
  go_ret
  exact ⟨rfl, H.tail⟩
theorem indexO_H (a : Option Addr) (n c px : Nat) (L : List Ofr) (s : Int) (hl : L.length = n) (hn : n ≤ 1000000) (m : Cel px #[.int .u64 s] 79 ∈ l) (R : ∀ w', Heap W l w' → Rd w' a (ofrL L)) :
    AnsH W l 125 #[.slice a n c, .func (.func 126) #[] #[.pointer (some ⟨px, 0, none⟩)]] (.int .i64 (idxO L s)) := by
  intro w H
  have HL := Lib.hid hl
  have HR := Lib.hid R
  have HLE := Lib.hid (iO_le L s)
  have E := fun y => at1_H (W := W) (l := l) y s px m
  have HE := Lib.hid E
  clear hl R E m
  go_enter Try.func125, Try.ntmps125
  go_wp2_with (go_skip)
  have H0 := H
  clear H
  go_loopw [8] (fun i wr => IdxO W l L s n i wr) (fun i _ => n - (intOf i).toNat)
  case atStart => exact ⟨0, Nat.zero_le _, Nat.zero_le _, rfl, H0⟩
  case round =>
    obtain ⟨k, hk, hkn, rfl, H⟩ := hrel.out
    clear H0 hrel
    by_cases hlt : k < n
    · have hkL : k < L.length := by rw [HL.out]; exact hlt
      have hrow := ofrL_get L k hkL
      have hlen : k * 7 + 7 ≤ (ofrL L).length := by rw [ofrL_len]; omega
      obtain ⟨ba, oa, rfl, _⟩ := (HR.out _ H).lt (by omega)
      have Rw := HR.out _ H
      by_cases he : k = iO L s
      · have hd : (L[k].sq == s) = true := by
          have := iO_at (L := L) (s := s) (by omega)
          subst he
          exact this
        have D := HE.out L[k]
        rw [hd] at D
        have HX := Lib.hid (show idxO L s = (k : Int) by unfold idxO; rw [← he, if_pos hkL])
        generalize L[k] = y at *
        clear hd he
        go_wp2_with (first
          | go_skip
          | ((with_reducible show wpList _ _ _ (_ :: _) _ _); (with_reducible apply wpl_loadRdR row_ofr); (· rfl); (· rfl); (· exact Rw); (· rfl); (· exact hlen); (· decide); (· exact hrow); (simp only [Act.put, List.setIfInBounds_toArray, List.set_cons_zero, List.set_cons_succ]))
          | ((with_reducible refine AnsH.call (by assumption) H ?_); clear H; intro _ H))
        go_ret
        rw [HX.out]
        exact ⟨rfl, H⟩
      · have hd : (L[k].sq == s) = false := iO_before (by omega) (List.getElem?_eq_getElem hkL)
        have D := HE.out L[k]
        rw [hd] at D
        have HK := Lib.hid (show k + 1 ≤ iO L s by omega)
        generalize L[k] = y at *
        clear hd he
        go_wp2_with (first
          | go_skip
          | ((with_reducible show wpList _ _ _ (_ :: _) _ _); (with_reducible apply wpl_loadRdR row_ofr); (· rfl); (· rfl); (· exact Rw); (· rfl); (· exact hlen); (· decide); (· exact hrow); (simp only [Act.put, List.setIfInBounds_toArray, List.set_cons_zero, List.set_cons_succ]))
          | ((with_reducible refine AnsH.call (by assumption) H ?_); clear H; intro _ H))
        refine ⟨⟨k + 1, HK.out, by omega, by go_num, H⟩, ?measure1⟩
        case measure1 => simp [intOf]; omega
    · obtain rfl : k = n := by omega
      have HX := Lib.hid (show idxO L s = -1 by unfold idxO; rw [if_neg (by rw [HL.out]; omega)])
      go_wp2_with (go_skip)
      go_ret
      rw [HX.out]
      exact ⟨rfl, H⟩
theorem at_H {p n c : Nat} {a : Option Addr} {nx : Int} {L : List Ofr} (s : Int) (m1 : BkB p (.slice a n c) nx ∈ l) (m2 : OfT (.slice a n c) n L ∈ l) (hl : L.length = n) (hn : n ≤ 1000000) :
    AnsH W l 106 #[.pointer (some ⟨p, 0, none⟩), .int .u64 s] (.int .i64 (idxO L s)) := by
  intro w H
  have hmf : ∀ (fn : Fn) (first cap : Array Value) (w : World), (Instr.makeFunc fn first cap).run Try.prog w = .ok (.func fn first cap) w := fun _ _ _ _ => rfl
  have I := fun px => indexO_H (W := W) (l := Cel px #[.int .u64 s] 79 :: l) a n c px L s hl hn List.mem_cons_self (fun w' H' => H'.rowRd (List.mem_cons_of_mem _ m2))
  have HI := Lib.hid I
  clear I hl
  go_enter Try.func106, Try.ntmps106
  go_wp2_with (first
    | ((with_reducible show wpList _ _ _ (_ :: _) _ _); (with_reducible apply wpl_boxCH); (· rfl); (· rfl); (· rfl); (· exact H); (clear H; intro pc _ H; have H := (show Heap _ (Cel pc #[.int .u64 s] _ :: l) _ from H)); (simp only [Act.put, List.setIfInBounds_toArray, List.set_cons_zero, List.set_cons_succ]))
    | ((with_reducible show wpList _ _ _ (_ :: _) _ _); (with_reducible apply wpl_loadCH); (· exact cell_ofrs); (· rfl); (· rfl); (· exact H); (· exact List.mem_cons_of_mem _ m1); (· exact bkb_g0 ..); (simp only [Act.put, List.setIfInBounds_toArray, List.set_cons_zero, List.set_cons_succ]))
    | go_skip
    | ((with_reducible refine AnsH.call (HI.out _) H ?_); clear H; intro _ H))
  go_ret
  exact ⟨rfl, H.tail⟩
theorem cloneO_H (ea : Option Addr) (en ec0 : Nat) (L : List Ofr) (hl : L.length = en) (hn : en ≤ 1000000) (R : ∀ l' w', (∀ x ∈ l, x ∈ l') → Heap W l' w' → Rd w' ea (ofrL L)) (H : Heap W l w) :
    Calls Try.prog 101 #[.slice ea en ec0] w fun e w' => ∃ v, e = .returned v ∧ Heap W (OfT v en L :: l) w' := by
  have HL := Lib.hid hl
  have HR := Lib.hid R
  clear hl R
  cases ea with
  | none =>
    have hz : en = 0 := by
      apply Classical.byContradiction
      intro hne
      obtain ⟨b, o, he, _⟩ := HR.out l w (fun _ h => h) H 0 (by rw [ofrL_len, HL.out]; omega)
      cases he
    subst hz
    have hF : L = [] := List.eq_nil_of_length_eq_zero HL.out
    have hnil : ∀ V, (binOp .eql 76 (.slice none 0 ec0) (.slice none 0 0)).run Try.prog V = .ok (.bool true) V := fun V => Lib.run_eql_slice_nil V _ _ none 0 ec0 0 0 Try.underlying76
    go_enter Try.func101, Try.ntmps101
    go_wp2_with (go_skip)
    go_ret
    subst hF
    exact ⟨_, rfl, H.nilRow _ _⟩
  | some a0 =>
    have hnil : ∀ V, (binOp .eql 76 (.slice (some a0) en ec0) (.slice none 0 0)).run Try.prog V = .ok (.bool false) V := fun V => Lib.run_eql_slice_nil V _ _ (some a0) en ec0 0 0 Try.underlying76
    have h1 : 0 + en ≤ maxLen := by unfold maxLen; omega
    have h2 : (0 + en) * 40 ≤ 140737488355328 := by omega
    have h3 : (ofrL L).length = en * 7 := by rw [ofrL_len, HL.out]
    go_enter Try.func101, Try.ntmps101
    go_wp2_with (first
      | go_skip
      | ((with_reducible show wpList _ _ _ (_ :: _) _ _); (with_reducible apply wpl_bs0); (· rfl); (· exact slO); (· exact H); (clear H; intro pq _ H); (simp only [Act.put, List.setIfInBounds_toArray, List.set_cons_zero, List.set_cons_succ]))
      | ((with_reducible show wpList _ _ _ (_ :: _) _ _); (with_reducible apply wpl_appendA slO); (· rfl); (· rfl); (· rfl); (· rfl); (· exact H.celRowA (n := 0) (m := 0) rfl (Nat.le_refl _) (Nat.zero_le _)); (· exact HR.out _ _ (fun _ h => List.mem_cons_of_mem _ h) H); (· exact h3); (· exact ofrL_ones L); (· exact h1); (· exact h2); (clear H; intro v2 _ _ H); (simp only [Act.put, List.setIfInBounds_toArray, List.set_cons_zero, List.set_cons_succ])))
    go_ret
    refine ⟨_, rfl, ?_⟩
    simpa using H
theorem all_H {p n : Nat} {v : Value} {nx : Int} {L : List Ofr} (m1 : BkB p v nx ∈ l) (m2 : OfT v n L ∈ l) (h : 0 < nx) (hl : L.length = n) (hn : n ≤ 1000000) (H : Heap W l w) :
    Calls Try.prog 52 #[.pointer (some ⟨p, 0, none⟩)] w fun e w' => ∃ v', e = .returned v' ∧ Heap W (OwO v' n L :: l) w' := by
  have T := bthere_yes (W := W) m1 h
  obtain ⟨a, c, rfl, hc1, hc2⟩ := RowT.form0 (H.ok _ m2)
  go_enter Try.func52, Try.ntmps52
  go_wp2_with (first
    | go_skip
    | ((with_reducible refine AnsH.call (by assumption) H ?_); clear H; intro _ H)
    | ((with_reducible show wpList _ _ _ (_ :: _) _ _); (with_reducible apply wpl_loadCH); (· exact cell_ofrs); (· rfl); (· rfl); (· exact H); (· exact m1); (· exact bkb_g0 ..); (simp only [Act.put, List.setIfInBounds_toArray, List.set_cons_zero, List.set_cons_succ])))
  refine (cloneO_H a n c L hl hn (fun l' w' hh H' => H'.rowRd (hh _ m2)) H).mono ?_
  clear H
  rintro e w1 ⟨v2, rfl, H⟩
  obtain ⟨a2, c2, rfl, hd1, hd2⟩ := RowT.form0 (H.ok _ List.mem_cons_self)
  have K := clipO a2 n c2 hd1 hd2 (fun e => RowT.nilO (H.ok _ List.mem_cons_self) _ _ (by rw [e]))
  go_wp2_with (first | go_skip | ((with_reducible refine Ans.callH (by assumption) H ?_); clear H; intro _ H))
  go_ret
  exact ⟨_, rfl, H.slide.clipOwn⟩
theorem next_H {p : Nat} {v : Value} {nx : Int} (m1 : BkB p v nx ∈ l) (h : 0 < nx) : AnsH W l 54 #[.pointer (some ⟨p, 0, none⟩)] (.int .u64 nx) := by
  intro w H
  have T := bthere_yes (W := W) m1 h
  go_enter Try.func54, Try.ntmps54
  go_wp2_with (first
    | go_skip
    | ((with_reducible refine AnsH.call (by assumption) H ?_); clear H; intro _ H)
    | ((with_reducible show wpList _ _ _ (_ :: _) _ _); (with_reducible apply wpl_loadCH); (· exact cell_u64); (· rfl); (· rfl); (· exact H); (· exact m1); (· exact bkb_g1 ..); (simp only [Act.put, List.setIfInBounds_toArray, List.set_cons_zero, List.set_cons_succ])))
  go_ret
  exact ⟨rfl, H⟩
end
end Go.Proofs.Ytacglcpjbepfnaa

/- Loud operations in a region that draws: a slice literal of one row, an append. -/
namespace Go.Proofs.Ytacglcpjbepfnaa
open Go.RowKit
set_option linter.unusedVariables false
section
variable {W : World} {G : List Thing → Prop} {loud : List Nat} {K : List Thing → Act → Prop} {l r : List Thing} {a : Act} {lo : List Oper} {ks : List Nat} {k : Nat} {dst : Option Tmp} {ty : TypeId} {pos : String} {after : Array Edge}
end
end Go.Proofs.Ytacglcpjbepfnaa

/- A region that draws its order, over a memory of things, with loud operations in one order: stores, makes, and calls that make or change things. A quiet operation must yield the same while some things stay ('base', a list that may grow behind a loud one): one walk in an order of one's own serves every order. -/
namespace Go.Proofs.Ytacglcpjbepfnaa
open Go.RowKit
set_option linter.unusedVariables false
def Keeps (base l : List Thing) : Prop := ∀ t, t ∈ base → t ∈ l
section
variable {P : Program} {ops : Array Oper} {md : Region.Mode} {W : World}
def YieldsK (P : Program) (ops : Array Oper) (W : World) (base : List Thing) (o : Oper) (v : Value) (a : Act) : Prop := ∀ l, Keeps base l → ∀ (w : World) (H : Heap W l w), YieldsIn P ops (fun w' => ∃ d, w' = H.any d) o v a
theorem YieldsK.of_same {base : List Thing} {o : Oper} {v : Value} {a a' : Act} (hy : YieldsK P ops W base o v a) (he : execOp a'.eval o = execOp a.eval o)
    (hw : Region.wanted o (yielded ops a'.tmps) = Region.wanted o (yielded ops a.tmps)) : YieldsK P ops W base o v a' := fun l hl w H => (hy l hl w H).of_same he hw
theorem YieldsK.more {base base' : List Thing} {o : Oper} {v : Value} {a : Act} (hy : YieldsK P ops W base o v a) (h : Keeps base base') : YieldsK P ops W base' o v a := fun l hl w H => hy l (fun t ht => hl t (h t ht)) w H
def LoudK (P : Program) (ops : Array Oper) (W : World) (o : Oper) (l : List Thing) (a : Act) (k : List Thing → Value → Prop) : Prop :=
  Region.wanted o (yielded ops a.tmps) = true ∧ ∀ w, Heap W l w →
    (∃ l' u w', ((execOp a.eval o).run P w = .ok (.value u) w' ∨ ((execOp a.eval o).run P w = .ok .skip w' ∧ u = undef)) ∧ Heap W l' w' ∧ k l' u) ∨
    (∃ f args w0, (execOp a.eval o).run P w = .ok (.enter f args) w0 ∧ Calls P f args w0 fun e w' => ∃ l' u, e = .returned u ∧ Heap W l' w' ∧ k l' u)
theorem LoudK.mono {o : Oper} {l : List Thing} {a : Act} {k k' : List Thing → Value → Prop} (h : LoudK P ops W o l a k) (hk : ∀ l' u, k l' u → k' l' u) : LoudK P ops W o l a k' :=
  ⟨h.1, fun w H => by
    rcases h.2 w H with ⟨l', u, w', h1, h2, h3⟩ | ⟨f, args, w0, h1, h2⟩
    · exact .inl ⟨l', u, w', h1, h2, hk _ _ h3⟩
    · exact .inr ⟨f, args, w0, h1, h2.mono fun e w' ⟨l', u, h3, h4, h5⟩ => ⟨l', u, h3, h4, hk _ _ h5⟩⟩⟩
theorem LoudK.of_same {o : Oper} {l : List Thing} {a a' : Act} {k : List Thing → Value → Prop} (h : LoudK P ops W o l a k) (he : execOp a'.eval o = execOp a.eval o)
    (hw : Region.wanted o (yielded ops a'.tmps) = Region.wanted o (yielded ops a.tmps)) : LoudK P ops W o l a' k := ⟨by rw [hw]; exact h.1, fun w H => by rw [he]; exact h.2 w H⟩
def WholeK (P : Program) (md : Region.Mode) (ops : Array Oper) (W : World) (K : List Thing → Act → Prop) : Nat → List Thing → List Thing → Array Bool → Act → Prop
  | 0, base, l, listed, a => Region.ready md ops listed = [] ∧ K l a
  | f + 1, base, l, listed, a => Region.ready md ops listed ≠ [] ∧ ∀ i ∈ Region.ready md ops listed, ∃ o, ops[i]? = some o ∧
      ((∃ v, YieldsK P ops W base o v a ∧ WholeK P md ops W K f base l (listed.setIfInBounds i true) (a.put o.dst v)) ∨
       LoudK P ops W o l a fun l' u => ∃ base', Keeps base base' ∧ Keeps base' l' ∧ WholeK P md ops W K f base' l' (listed.setIfInBounds i true) (a.put o.dst u))
theorem WholeK.any {K : List Thing → Act → Prop} {Q : Exit → Act → World → Prop} (hK : ∀ l a w, Heap W l w → K l a → Q .normal a w) :
    ∀ (f : Nat) (base l : List Thing) (listed : Array Bool) (a : Act) (w : World), Keeps base l → Heap W l w → WholeK P md ops W K f base l listed a → wpAny P md ops Q f listed a w := by
  intro f
  induction f with
  | zero => intro base l listed a w _ H h; exact ⟨h.1, hK _ _ _ H h.2⟩
  | succ f ih =>
    intro base l listed a w hG H h
    refine ⟨fun h0 => absurd h0 h.1, fun i hi => ?_⟩
    obtain ⟨o, ho, h⟩ := h.2 i hi
    rcases h with ⟨v, hy, h⟩ | h
    · refine wpOp_of_qOp (C := fun w' => ∃ d, w' = H.any d) (H.any_of H) (fun a' w' hw' ha' => ?_) ((hy l hG w H).qOp ho (K := fun a' => a' = a.put o.dst v) rfl)
      obtain ⟨d, rfl⟩ := hw'
      subst ha'
      exact ih _ _ _ _ _ hG (H.any_heap d) h
    · unfold wpOp
      simp only [ho]
      rw [if_pos h.1]
      refine .inl ?_
      unfold Oper.wp
      rcases h.2 w H with ⟨l', u, w', hr, H', base', h1, h2, hk⟩ | ⟨g, args, w0, hr, hc⟩
      · rcases hr with hr | ⟨hr, rfl⟩ <;> rw [hr] <;> exact ih _ _ _ _ _ h2 H' hk
      · rw [hr, Oper.upon_enter]
        refine hc.mono ?_
        rintro e w' ⟨l', u, rfl, H', base', h1, h2, hk⟩
        exact ih _ _ _ _ _ h2 H' hk
theorem WholeK.first {i : Nat} {oi : Oper} {v : Value} {K : List Thing → Act → Prop} (hi : ops[i]? = some oi) (hsel : ∀ (j : Nat) (o : Oper) cs b, ops[j]? = some o → o.op ≠ .select cs b) :
    ∀ (f : Nat) (base l : List Thing) (listed : Array Bool) (a : Act),
      (∀ j oj, ops[j]? = some oj → j ≠ i → listed.getD j true = false → (∀ e ∈ oj.after, Region.binds md e = true → e.on ≠ i) → oi.apart ops oj = true) →
      i ∈ Region.ready md ops listed → YieldsK P ops W base oi v a → WholeK P md ops W K f base l (listed.setIfInBounds i true) (a.put oi.dst v) → WholeK P md ops W K (f + 1) base l listed a := by
  intro f
  induction f with
  | zero =>
    intro base l listed a _ hr hy H
    refine ⟨fun h => by rw [h] at hr; simp at hr, fun j hj => ?_⟩
    by_cases e : j = i
    · subst e; exact ⟨oi, hi, .inl ⟨v, hy, H⟩⟩
    · have := ready_mono hj e
      rw [H.1] at this; cases this
  | succ f ih =>
    intro base l listed a hfree hr hy H
    have hun := (mem_ready.1 hr).1
    refine ⟨fun h => by rw [h] at hr; simp at hr, fun j hj => ?_⟩
    by_cases e : j = i
    · subst e; exact ⟨oi, hi, .inl ⟨v, hy, H⟩⟩
    · obtain ⟨hjun, oj, hoj, hall⟩ := mem_ready.1 hj
      have hnot : ∀ e ∈ oj.after, Region.binds md e = true → e.on ≠ i := fun e he hb heq => by
        have := hall e he hb
        rw [heq, getD_both hun] at this
        cases this
      obtain ⟨h1, h2, h3⟩ := Oper.apart_spec (hfree j oj hoj e hjun hnot)
      have hsi := fun cs b => hsel i oi cs b hi
      have hsj := fun cs b => hsel j oj cs b hoj
      have keep : ∀ u, YieldsK P ops W base oi v (a.put oj.dst u) := fun u => hy.of_same (execOp_put oi hsi a oj.dst u h3) (wanted_put oi a oj.dst u h3)
      have hfree' : ∀ k ok, ops[k]? = some ok → k ≠ i → (listed.setIfInBounds j true).getD k true = false →
          (∀ e ∈ ok.after, Region.binds md e = true → e.on ≠ i) → oi.apart ops ok = true := fun k ok hk hki hun hno => by
        refine hfree k ok hk hki ?_ hno
        by_cases hjk : j = k
        · subst hjk; exact hjun
        · rw [getD_set_ne true hjk] at hun; exact hun
      obtain ⟨o', ho', h⟩ := H.2 j (ready_mono hj e)
      obtain rfl : o' = oj := Option.some.inj (ho'.symm.trans hoj)
      refine ⟨o', hoj, ?_⟩
      rcases h with ⟨u, hu, h⟩ | h
      · refine .inl ⟨u, hu.of_same (execOp_put o' hsj a oi.dst v h1).symm (wanted_put o' a oi.dst v h1).symm, ih _ _ _ _ hfree' (ready_mono hr (Ne.symm e)) (keep _) ?_⟩
        rw [Array.setIfInBounds_comm _ _ e, ← Act.put_comm a v _ h2]
        exact h
      · refine .inr ((h.of_same (execOp_put o' hsj a oi.dst v h1).symm (wanted_put o' a oi.dst v h1).symm).mono fun l' u ⟨base', hb1, hb2, h⟩ => ⟨base', hb1, hb2, ih _ _ _ _ hfree' (ready_mono hr (Ne.symm e)) ((keep _).more hb1) ?_⟩)
        rw [Array.setIfInBounds_comm _ _ e, ← Act.put_comm a v _ h2]
        exact h
/-- The walk in an order of one's own. -/
def wpK (P : Program) (ops : Array Oper) (W : World) (loud : List Nat) (K : List Thing → Act → Prop) : List Nat → List Thing → List Thing → Act → Prop
  | [], base, l, a => K l a
  | k :: ks, base, l, a => ∃ o, ops[k]? = some o ∧ if loud.contains k then LoudK P ops W o l a fun l' u => ∃ base', Keeps base base' ∧ Keeps base' l' ∧ wpK P ops W loud K ks base' l' (a.put o.dst u)
      else ∃ v, YieldsK P ops W base o v a ∧ wpK P ops W loud K ks base l (a.put o.dst v)
theorem WholeK.lexO {loud : List Nat} {K : List Thing → Act → Prop} (hsel : Region.noSelect ops = true) :
    ∀ (ks : List Nat) (base l : List Thing) (listed : Array Bool) (a : Act), Region.lexO md ops loud ks listed = true → wpK P ops W loud K ks base l a → WholeK P md ops W K ks.length base l listed a := by
  intro ks
  induction ks with
  | nil => intro base l listed a hB h; exact ⟨by simpa [Region.lexO] using hB, h⟩
  | cons k ks ih =>
    intro base l listed a hB h
    obtain ⟨o, h0, h⟩ := h
    rw [Region.lexO] at hB
    simp only [Bool.and_eq_true] at hB
    obtain ⟨hB, hB'⟩ := hB
    by_cases hk : loud.contains k = true
    · rw [if_pos hk] at h hB
      have hr : Region.ready md ops listed = [k] := by simpa using hB
      refine ⟨by rw [hr]; simp, fun i hi => ?_⟩
      rw [hr] at hi
      obtain rfl : i = k := by simpa using hi
      exact ⟨o, h0, .inr (h.mono fun l' u ⟨base', h1, h2, h⟩ => ⟨base', h1, h2, ih _ _ _ _ hB' h⟩)⟩
    · rw [if_neg hk] at h hB
      simp only [Bool.and_eq_true] at hB
      obtain ⟨v, hy, h⟩ := h
      exact WholeK.first h0 (Region.noSelect_spec hsel) ks.length base l listed a (Region.free_spec h0 hB.2) (by simpa using hB.1) hy (ih _ _ _ _ hB' h)
theorem wp_region_K {id : Nat} {Q : Exit → Act → World → Prop} {a : Act} {w : World} {l : List Thing} {lo : List Oper} (loud ord : List Nat) (base : List Thing) (H : Heap W l w) (hG : Keeps base l) (hm : P.follows .mixedOrders = true) (hB : Region.lexOB lo.toArray loud ord = true)
    (h : wpK P lo.toArray W loud (fun l' a' => ∀ w', Heap W l' w' → Q .normal a' w') ord base l a) : (Code.region id lo.toArray true).wp P Q a w := by
  simp only [Region.lexOB, Bool.and_eq_true, beq_iff_eq] at hB
  refine wp_region_any hm ?_
  have := WholeK.lexO (md := .any) hB.1.1 ord base l _ a hB.1.2 h
  have h2 := WholeK.any (Q := Q) (fun l a w H h => h w H) ord.length base l _ a _ hG H.drew this
  rw [hB.2] at h2
  exact h2
theorem wp_region_K0 {id : Nat} {Q : Exit → Act → World → Prop} {a : Act} {w : World} {l : List Thing} {lo : List Oper} (loud ord : List Nat) (H : Heap W l w) (hm : P.follows .mixedOrders = true) (hB : Region.lexOB lo.toArray loud ord = true)
    (h : wpK P lo.toArray W loud (fun l' a' => ∀ w', Heap W l' w' → Q .normal a' w') ord l l a) : (Code.region id lo.toArray true).wp P Q a w :=
  wp_region_K loud ord l H (fun _ h => h) hm hB h
theorem wpK_nil {loud : List Nat} {K : List Thing → Act → Prop} {base l : List Thing} {a : Act} (h : K l a) : wpK P ops W loud K [] base l a := h
theorem wpK_step {lo : List Oper} {loud : List Nat} {K : List Thing → Act → Prop} {o : Oper} {k : Nat} {ks : List Nat} {base l : List Thing} {a : Act} {s : Nat} {v : Value} (ho : lo[k]? = some o) (hk : loud.contains k = false) (hd : o.dst = some s) (hlt : s < a.tmps.size)
    (h1 : ∀ l0, Keeps base l0 → ∀ (w0 : World) (H0 : Heap W l0 w0), wpQuiet P lo.toArray (fun w' => ∃ d, w' = H0.any d) (fun a' => a'.tmps.getD s undef = v) [o] a) (h2 : wpK P lo.toArray W loud K ks base l (a.put o.dst v)) : wpK P lo.toArray W loud K (k :: ks) base l a := by
  have inj : ∀ u, (a.put o.dst u).tmps.getD s undef = v → u = v := fun u h => by
    rw [hd] at h
    simp [Act.put, hlt] at h
    exact h
  refine ⟨o, by simpa using ho, ?_⟩
  rw [if_neg (by rw [hk]; exact Bool.false_ne_true)]
  refine ⟨v, fun l0 hl0 w0 H0 => ?_, h2⟩
  have h := h1 l0 hl0 w0 H0
  unfold wpQuiet at h
  by_cases hw : Region.wanted o (yielded lo.toArray a.tmps) = true
  · rw [if_pos hw] at h
    obtain ⟨u, hu, hk⟩ := h
    obtain rfl := inj u hk
    exact .inl ⟨hw, hu⟩
  · rw [if_neg hw] at h
    exact .inr ⟨by simpa using hw, (inj undef h).symm⟩
theorem wpK_loud {lo : List Oper} {loud : List Nat} {K : List Thing → Act → Prop} {o : Oper} {k : Nat} {ks : List Nat} {base l : List Thing} {a : Act} (ho : lo[k]? = some o) (hk : loud.contains k = true) (h : LoudK P lo.toArray W o l a fun l' u => ∃ base', Keeps base base' ∧ Keeps base' l' ∧ wpK P lo.toArray W loud K ks base' l' (a.put o.dst u)) : wpK P lo.toArray W loud K (k :: ks) base l a := by
  refine ⟨o, by simpa using ho, ?_⟩
  rw [if_pos hk]
  exact h
/-- A call, by what it does: in the end 'base' may grow. -/
theorem wpK_call {lo : List Oper} {loud : List Nat} {K : List Thing → Act → Prop} {k : Nat} {ks : List Nat} {base l : List Thing} {a : Act} {dst : Option Tmp} {ty : TypeId} {pos : String} {after : Array Edge} {guard : Option (Nat × Bool)} {f : FuncId} {xs : Array Operand} {ats : Array TypeId} {argl : List Value}
    (ho : lo[k]? = some ⟨dst, .call { callee := .value (.func f), args := xs, argTypes := ats }, ty, pos, after, guard⟩) (hk : loud.contains k = true) (hw : Region.wanted ⟨dst, .call { callee := .value (.func f), args := xs, argTypes := ats }, ty, pos, after, guard⟩ (yielded lo.toArray a.tmps) = true)
    (hf : ∀ args w, (callFunc f args).run P w = .ok (.enter f args) w) (ha : xs.toList.map a.eval = argl)
    (hc : ∀ w, Heap W l w → Calls P f argl.toArray w fun e w' => ∃ l' u, e = .returned u ∧ Heap W l' w' ∧ ∃ base', Keeps base base' ∧ Keeps base' l' ∧ wpK P lo.toArray W loud K ks base' l' (a.put dst u)) : wpK P lo.toArray W loud K (k :: ks) base l a := by
  refine wpK_loud ho hk ⟨hw, fun w H => .inr ⟨f, argl.toArray, w, ?_, hc w H⟩⟩
  have e : #[] ++ xs.map a.eval ++ #[] = argl.toArray := by subst ha; apply Array.ext'; simp
  rw [execOp_call_go, e]
  exact hf _ w
theorem Keeps.refl (l : List Thing) : Keeps l l := fun _ h => h
theorem wpK_boxR {W : World} {lo : List Oper} {loud : List Nat} {K : List Thing → Act → Prop} {k : Nat} {ks : List Nat} {base l : List Thing} {a : Act} {T : TypeId} {dst : Option Tmp} {ty : TypeId} {pos : String} {after : Array Edge} {guard : Option (Nat × Bool)} {x : Operand} {c : Array Value}
    (ho : lo[k]? = some ⟨dst, .box T x, ty, pos, after, guard⟩) (hk : loud.contains k = true) (hw : Region.wanted ⟨dst, .box T x, ty, pos, after, guard⟩ (yielded lo.toArray a.tmps) = true) (hx : a.eval x = .agg c) (hb : Keeps base l)
    (h : ∀ p, wpK P lo.toArray W loud K ks base (Cel p c T :: l) (a.put dst (.pointer (some ⟨p, 0, none⟩)))) : wpK P lo.toArray W loud K (k :: ks) base l a := by
  refine wpK_loud ho hk ⟨hw, fun w H => .inl ⟨Cel w.heap.size c T :: l, .pointer (some ⟨w.heap.size, 0, none⟩), w.alloc (.cells c T), .inl ?_, H.alloc c T, base, Keeps.refl _, fun t ht => List.mem_cons_of_mem _ (hb t ht), h _⟩⟩
  unfold execOp
  simp only [hx, Instr.box, newVar, newRow, Value.cells]
  rfl
end
end Go.Proofs.Ytacglcpjbepfnaa

/- What is proved of a region outside serves in a round of a range over a function. -/
namespace Go.Proofs.Ytacglcpjbepfnaa
open Go.RowKit
set_option linter.unusedVariables false
section
variable {ro : Option Nat} {n : Nat} {P : Program} {ops : Array Oper} {Q : Exit → Act → World → Prop}
end
end Go.Proofs.Ytacglcpjbepfnaa
