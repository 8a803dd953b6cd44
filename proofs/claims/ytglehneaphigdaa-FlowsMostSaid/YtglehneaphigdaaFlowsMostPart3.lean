/- FlowsMost: part 3 of its proof: HeapRegion, Graph, Graph2. -/
import Derived.Test.YtglehneaphigdaaFlowsMostPart2
import Derived.Test.YtglehneaphigdaaRows
/- A region that draws its order, over a memory of things: operations that only read, or call what leaves the things so; and loud ones (a make, a store) that stand in one order. One walk in the order of the text serves every order. -/
namespace Go.Proofs.Ytglehneaphigdaa
open Go.RowKit
set_option linter.unusedVariables false

section
variable {P : Program} {ops : Array Oper} {md : Region.Mode} {W : World} {G : List Thing → Prop}
/-- In whatever memory of such things the operation yields v, and leaves the things so. -/
def YieldsG (P : Program) (ops : Array Oper) (W : World) (G : List Thing → Prop) (o : Oper) (v : Value) (a : Act) : Prop := ∀ l, G l → ∀ (w : World) (H : Heap W l w), YieldsIn P ops (fun w' => ∃ d, w' = H.any d) o v a
theorem YieldsG.of_same {o : Oper} {v : Value} {a a' : Act} (hy : YieldsG P ops W G o v a) (he : execOp a'.eval o = execOp a.eval o)
    (hw : Region.wanted o (yielded ops a'.tmps) = Region.wanted o (yielded ops a.tmps)) : YieldsG P ops W G o v a' := fun l hl w H => (hy l hl w H).of_same he hw
/-- The operation makes other things of the things. -/
def LoudG (P : Program) (ops : Array Oper) (W : World) (o : Oper) (l : List Thing) (a : Act) (k : List Thing → Value → Prop) : Prop :=
  Region.wanted o (yielded ops a.tmps) = true ∧ ∀ w, Heap W l w → ∃ l' u w', ((execOp a.eval o).run P w = .ok (.value u) w' ∨ ((execOp a.eval o).run P w = .ok .skip w' ∧ u = undef)) ∧ Heap W l' w' ∧ k l' u
theorem LoudG.mono {o : Oper} {l : List Thing} {a : Act} {k k' : List Thing → Value → Prop} (h : LoudG P ops W o l a k) (hk : ∀ l' u, k l' u → k' l' u) : LoudG P ops W o l a k' :=
  ⟨h.1, fun w H => let ⟨l', u, w', h1, h2, h3⟩ := h.2 w H; ⟨l', u, w', h1, h2, hk _ _ h3⟩⟩
theorem LoudG.of_same {o : Oper} {l : List Thing} {a a' : Act} {k : List Thing → Value → Prop} (h : LoudG P ops W o l a k) (he : execOp a'.eval o = execOp a.eval o)
    (hw : Region.wanted o (yielded ops a'.tmps) = Region.wanted o (yielded ops a.tmps)) : LoudG P ops W o l a' k := ⟨by rw [hw]; exact h.1, fun w H => by rw [he]; exact h.2 w H⟩
def WholeG (P : Program) (md : Region.Mode) (ops : Array Oper) (W : World) (G : List Thing → Prop) (K : List Thing → Act → Prop) : Nat → List Thing → Array Bool → Act → Prop
  | 0, l, listed, a => Region.ready md ops listed = [] ∧ K l a
  | f + 1, l, listed, a => Region.ready md ops listed ≠ [] ∧ ∀ i ∈ Region.ready md ops listed, ∃ o, ops[i]? = some o ∧
      ((∃ v, YieldsG P ops W G o v a ∧ WholeG P md ops W G K f l (listed.setIfInBounds i true) (a.put o.dst v)) ∨
       LoudG P ops W o l a fun l' u => G l' ∧ WholeG P md ops W G K f l' (listed.setIfInBounds i true) (a.put o.dst u))
theorem WholeG.any {K : List Thing → Act → Prop} {Q : Exit → Act → World → Prop} (hK : ∀ l a w, Heap W l w → K l a → Q .normal a w) :
    ∀ (f : Nat) (l : List Thing) (listed : Array Bool) (a : Act) (w : World), G l → Heap W l w → WholeG P md ops W G K f l listed a → wpAny P md ops Q f listed a w := by
  intro f
  induction f with
  | zero => intro l listed a w _ H h; exact ⟨h.1, hK _ _ _ H h.2⟩
  | succ f ih =>
    intro l listed a w hG H h
    refine ⟨fun h0 => absurd h0 h.1, fun i hi => ?_⟩
    obtain ⟨o, ho, h⟩ := h.2 i hi
    rcases h with ⟨v, hy, h⟩ | h
    · refine wpOp_of_qOp (C := fun w' => ∃ d, w' = H.any d) (H.any_of H) (fun a' w' hw' ha' => ?_) ((hy l hG w H).qOp ho (K := fun a' => a' = a.put o.dst v) rfl)
      obtain ⟨d, rfl⟩ := hw'
      subst ha'
      exact ih _ _ _ _ hG (H.any_heap d) h
    · obtain ⟨l', u, w', hr, H', hG', hk⟩ := h.2 w H
      unfold wpOp
      simp only [ho]
      rw [if_pos h.1]
      refine .inl ?_
      unfold Oper.wp
      rcases hr with hr | ⟨hr, rfl⟩ <;> rw [hr] <;> exact ih _ _ _ _ hG' H' hk
theorem WholeG.first {i : Nat} {oi : Oper} {v : Value} {K : List Thing → Act → Prop} (hi : ops[i]? = some oi) (hsel : ∀ (j : Nat) (o : Oper) cs b, ops[j]? = some o → o.op ≠ .select cs b) :
    ∀ (f : Nat) (l : List Thing) (listed : Array Bool) (a : Act),
      (∀ j oj, ops[j]? = some oj → j ≠ i → listed.getD j true = false → (∀ e ∈ oj.after, Region.binds md e = true → e.on ≠ i) → oi.apart ops oj = true) →
      i ∈ Region.ready md ops listed → YieldsG P ops W G oi v a → WholeG P md ops W G K f l (listed.setIfInBounds i true) (a.put oi.dst v) → WholeG P md ops W G K (f + 1) l listed a := by
  intro f
  induction f with
  | zero =>
    intro l listed a _ hr hy H
    refine ⟨fun h => by rw [h] at hr; simp at hr, fun j hj => ?_⟩
    by_cases e : j = i
    · subst e; exact ⟨oi, hi, .inl ⟨v, hy, H⟩⟩
    · have := ready_mono hj e
      rw [H.1] at this; cases this
  | succ f ih =>
    intro l listed a hfree hr hy H
    have hun := (mem_ready.1 hr).1
    refine ⟨fun h => by rw [h] at hr; simp at hr, fun j hj => ?_⟩
    by_cases e : j = i
    · subst e; exact ⟨oi, hi, .inl ⟨v, hy, H⟩⟩
    · obtain ⟨hjun, oj, hoj, hall⟩ := mem_ready.1 hj
      have hnot : ∀ e ∈ oj.after, Region.binds md e = true → e.on ≠ i := fun e he hb heq => by
        have := hall e he hb
        rw [heq, getD_both hun] at this
        cases this
      obtain ⟨h1, h2, h3⟩ := Oper.apart_spec (hfree j oj hoj e hjun hnot)
      have hsi := fun cs b => hsel i oi cs b hi
      have hsj := fun cs b => hsel j oj cs b hoj
      have keep : ∀ u, YieldsG P ops W G oi v (a.put oj.dst u) := fun u => hy.of_same (execOp_put oi hsi a oj.dst u h3) (wanted_put oi a oj.dst u h3)
      have hfree' : ∀ k ok, ops[k]? = some ok → k ≠ i → (listed.setIfInBounds j true).getD k true = false →
          (∀ e ∈ ok.after, Region.binds md e = true → e.on ≠ i) → oi.apart ops ok = true := fun k ok hk hki hun hno => by
        refine hfree k ok hk hki ?_ hno
        by_cases hjk : j = k
        · subst hjk; exact hjun
        · rw [getD_set_ne true hjk] at hun; exact hun
      obtain ⟨o', ho', h⟩ := H.2 j (ready_mono hj e)
      obtain rfl : o' = oj := Option.some.inj (ho'.symm.trans hoj)
      refine ⟨o', hoj, ?_⟩
      rcases h with ⟨u, hu, h⟩ | h
      · refine .inl ⟨u, hu.of_same (execOp_put o' hsj a oi.dst v h1).symm (wanted_put o' a oi.dst v h1).symm, ih _ _ _ hfree' (ready_mono hr (Ne.symm e)) (keep _) ?_⟩
        rw [Array.setIfInBounds_comm _ _ e, ← Act.put_comm a v _ h2]
        exact h
      · refine .inr ((h.of_same (execOp_put o' hsj a oi.dst v h1).symm (wanted_put o' a oi.dst v h1).symm).mono fun l' u ⟨hg, h⟩ => ⟨hg, ih _ _ _ hfree' (ready_mono hr (Ne.symm e)) (keep _) ?_⟩)
        rw [Array.setIfInBounds_comm _ _ e, ← Act.put_comm a v _ h2]
        exact h
/-- Is the order of the text one that serves: each quiet operation may come first, each loud one must? -/
def Region.lexW (md : Region.Mode) (ops : Array Oper) (loud : List Nat) : Nat → Nat → Array Bool → Bool
  | 0, _, listed => (Region.ready md ops listed).isEmpty
  | f + 1, k, listed => (if loud.contains k then Region.ready md ops listed == [k] else (Region.ready md ops listed).contains k && Region.free md ops listed k) && Region.lexW md ops loud f (k + 1) (listed.setIfInBounds k true)
def Region.lexWB (ops : Array Oper) (loud : List Nat) : Bool := Region.noSelect ops && Region.lexW .any ops loud ops.size 0 (Array.replicate ops.size false)
/-- The walk in the order of the text. -/
def wpW (P : Program) (ops : Array Oper) (W : World) (G : List Thing → Prop) (loud : List Nat) (K : List Thing → Act → Prop) : List Oper → Nat → List Thing → Act → Prop
  | [], _, l, a => K l a
  | o :: rest, k, l, a => if loud.contains k then LoudG P ops W o l a fun l' u => G l' ∧ wpW P ops W G loud K rest (k + 1) l' (a.put o.dst u)
      else ∃ v, YieldsG P ops W G o v a ∧ wpW P ops W G loud K rest (k + 1) l (a.put o.dst v)
theorem WholeG.lex {loud : List Nat} {K : List Thing → Act → Prop} (hsel : Region.noSelect ops = true) :
    ∀ (rest : List Oper) (k : Nat) (l : List Thing) (listed : Array Bool) (a : Act), (∀ j, j < rest.length → rest[j]? = ops[k + j]?) → Region.lexW md ops loud rest.length k listed = true → wpW P ops W G loud K rest k l a → WholeG P md ops W G K rest.length l listed a := by
  intro rest
  induction rest with
  | nil => intro k l listed a _ hB h; exact ⟨by simpa [Region.lexW] using hB, h⟩
  | cons o rest ih =>
    intro k l listed a hl hB h
    have h0 : ops[k]? = some o := by simpa using (hl 0 (by simp)).symm
    have hl' : ∀ j, j < rest.length → rest[j]? = ops[k + 1 + j]? := fun j hj => by have := hl (j + 1) (by simp; omega); simpa [Nat.add_assoc, Nat.add_comm 1 j] using this
    rw [List.length_cons, Region.lexW] at hB
    simp only [Bool.and_eq_true] at hB
    obtain ⟨hB, hB'⟩ := hB
    unfold wpW at h
    by_cases hk : loud.contains k = true
    · rw [if_pos hk] at h hB
      have hr : Region.ready md ops listed = [k] := by simpa using hB
      refine ⟨by rw [hr]; simp, fun i hi => ?_⟩
      rw [hr] at hi
      obtain rfl : i = k := by simpa using hi
      exact ⟨o, h0, .inr (h.mono fun l' u ⟨hg, h⟩ => ⟨hg, ih _ _ _ _ hl' hB' h⟩)⟩
    · rw [if_neg hk] at h hB
      simp only [Bool.and_eq_true] at hB
      obtain ⟨v, hy, h⟩ := h
      exact WholeG.first h0 (Region.noSelect_spec hsel) rest.length l listed a (Region.free_spec h0 hB.2) (by simpa using hB.1) hy (ih _ _ _ _ hl' hB' h)
theorem wp_region_W {id : Nat} {Q : Exit → Act → World → Prop} {a : Act} {w : World} {l : List Thing} {lo : List Oper} (loud : List Nat) (G : List Thing → Prop) (H : Heap W l w) (hG : G l) (hm : P.follows .mixedOrders = true) (hB : Region.lexWB lo.toArray loud = true)
    (h : wpW P lo.toArray W G loud (fun l' a' => ∀ w', Heap W l' w' → Q .normal a' w') lo 0 l a) : (Code.region id lo.toArray true).wp P Q a w := by
  simp only [Region.lexWB, Bool.and_eq_true] at hB
  refine wp_region_any hm ?_
  have := WholeG.lex (md := .any) hB.1 lo 0 l (Array.replicate lo.toArray.size false) a (fun j hj => by simp) (by simpa using hB.2) h
  have h2 := WholeG.any (Q := Q) (fun l a w H h => h w H) lo.length l _ a _ hG H.drew this
  simpa using h2
/-- Is this order one that serves? -/
def Region.lexO (md : Region.Mode) (ops : Array Oper) (loud : List Nat) : List Nat → Array Bool → Bool
  | [], listed => (Region.ready md ops listed).isEmpty
  | k :: ks, listed => (if loud.contains k then Region.ready md ops listed == [k] else (Region.ready md ops listed).contains k && Region.free md ops listed k) && Region.lexO md ops loud ks (listed.setIfInBounds k true)
def Region.lexOB (ops : Array Oper) (loud ord : List Nat) : Bool := Region.noSelect ops && Region.lexO .any ops loud ord (Array.replicate ops.size false) && ord.length == ops.size
/-- The walk in an order of one's own. -/
def wpO (P : Program) (ops : Array Oper) (W : World) (G : List Thing → Prop) (loud : List Nat) (K : List Thing → Act → Prop) : List Nat → List Thing → Act → Prop
  | [], l, a => K l a
  | k :: ks, l, a => ∃ o, ops[k]? = some o ∧ if loud.contains k then LoudG P ops W o l a fun l' u => G l' ∧ wpO P ops W G loud K ks l' (a.put o.dst u)
      else ∃ v, YieldsG P ops W G o v a ∧ wpO P ops W G loud K ks l (a.put o.dst v)
theorem WholeG.lexO {loud : List Nat} {K : List Thing → Act → Prop} (hsel : Region.noSelect ops = true) :
    ∀ (ks : List Nat) (l : List Thing) (listed : Array Bool) (a : Act), Region.lexO md ops loud ks listed = true → wpO P ops W G loud K ks l a → WholeG P md ops W G K ks.length l listed a := by
  intro ks
  induction ks with
  | nil => intro l listed a hB h; exact ⟨by simpa [Region.lexO] using hB, h⟩
  | cons k ks ih =>
    intro l listed a hB h
    obtain ⟨o, h0, h⟩ := h
    rw [Region.lexO] at hB
    simp only [Bool.and_eq_true] at hB
    obtain ⟨hB, hB'⟩ := hB
    by_cases hk : loud.contains k = true
    · rw [if_pos hk] at h hB
      have hr : Region.ready md ops listed = [k] := by simpa using hB
      refine ⟨by rw [hr]; simp, fun i hi => ?_⟩
      rw [hr] at hi
      obtain rfl : i = k := by simpa using hi
      exact ⟨o, h0, .inr (h.mono fun l' u ⟨hg, h⟩ => ⟨hg, ih _ _ _ hB' h⟩)⟩
    · rw [if_neg hk] at h hB
      simp only [Bool.and_eq_true] at hB
      obtain ⟨v, hy, h⟩ := h
      exact WholeG.first h0 (Region.noSelect_spec hsel) ks.length l listed a (Region.free_spec h0 hB.2) (by simpa using hB.1) hy (ih _ _ _ hB' h)
theorem wp_region_O {id : Nat} {Q : Exit → Act → World → Prop} {a : Act} {w : World} {l : List Thing} {lo : List Oper} (loud ord : List Nat) (G : List Thing → Prop) (H : Heap W l w) (hG : G l) (hm : P.follows .mixedOrders = true) (hB : Region.lexOB lo.toArray loud ord = true)
    (h : wpO P lo.toArray W G loud (fun l' a' => ∀ w', Heap W l' w' → Q .normal a' w') ord l a) : (Code.region id lo.toArray true).wp P Q a w := by
  simp only [Region.lexOB, Bool.and_eq_true, beq_iff_eq] at hB
  refine wp_region_any hm ?_
  have := WholeG.lexO (md := .any) hB.1.1 ord l _ a hB.1.2 h
  have h2 := WholeG.any (Q := Q) (fun l a w H h => h w H) ord.length l _ a _ hG H.drew this
  rw [hB.2] at h2
  exact h2
theorem wpO_nil {loud : List Nat} {K : List Thing → Act → Prop} {l : List Thing} {a : Act} (h : K l a) : wpO P ops W G loud K [] l a := h
theorem wpO_step {lo : List Oper} {loud : List Nat} {K : List Thing → Act → Prop} {o : Oper} {k : Nat} {ks : List Nat} {l : List Thing} {a : Act} {s : Nat} {v : Value} (ho : lo[k]? = some o) (hk : loud.contains k = false) (hd : o.dst = some s) (hlt : s < a.tmps.size)
    (h1 : ∀ l0, G l0 → ∀ (w0 : World) (H0 : Heap W l0 w0), wpQuiet P lo.toArray (fun w' => ∃ d, w' = H0.any d) (fun a' => a'.tmps.getD s undef = v) [o] a) (h2 : wpO P lo.toArray W G loud K ks l (a.put o.dst v)) : wpO P lo.toArray W G loud K (k :: ks) l a := by
  have inj : ∀ u, (a.put o.dst u).tmps.getD s undef = v → u = v := fun u h => by
    rw [hd] at h
    simp [Act.put, hlt] at h
    exact h
  refine ⟨o, by simpa using ho, ?_⟩
  rw [if_neg (by rw [hk]; exact Bool.false_ne_true)]
  refine ⟨v, fun l0 hl0 w0 H0 => ?_, h2⟩
  have h := h1 l0 hl0 w0 H0
  unfold wpQuiet at h
  by_cases hw : Region.wanted o (yielded lo.toArray a.tmps) = true
  · rw [if_pos hw] at h
    obtain ⟨u, hu, hk⟩ := h
    obtain rfl := inj u hk
    exact .inl ⟨hw, hu⟩
  · rw [if_neg hw] at h
    exact .inr ⟨by simpa using hw, (inj undef h).symm⟩
theorem wpO_loud {lo : List Oper} {loud : List Nat} {K : List Thing → Act → Prop} {o : Oper} {k : Nat} {ks : List Nat} {l : List Thing} {a : Act} (ho : lo[k]? = some o) (hk : loud.contains k = true) (h : LoudG P lo.toArray W o l a fun l' u => G l' ∧ wpO P lo.toArray W G loud K ks l' (a.put o.dst u)) : wpO P lo.toArray W G loud K (k :: ks) l a := by
  refine ⟨o, by simpa using ho, ?_⟩
  rw [if_pos hk]
  exact h
theorem wpW_nil {loud : List Nat} {K : List Thing → Act → Prop} {k : Nat} {l : List Thing} {a : Act} (h : K l a) : wpW P ops W G loud K [] k l a := h
theorem wpW_step {loud : List Nat} {K : List Thing → Act → Prop} {o : Oper} {rest : List Oper} {k : Nat} {l : List Thing} {a : Act} {s : Nat} {v : Value} (hk : loud.contains k = false) (hd : o.dst = some s) (hlt : s < a.tmps.size)
    (h1 : ∀ l0, G l0 → ∀ (w0 : World) (H0 : Heap W l0 w0), wpQuiet P ops (fun w' => ∃ d, w' = H0.any d) (fun a' => a'.tmps.getD s undef = v) [o] a) (h2 : wpW P ops W G loud K rest (k + 1) l (a.put o.dst v)) : wpW P ops W G loud K (o :: rest) k l a := by
  have inj : ∀ u, (a.put o.dst u).tmps.getD s undef = v → u = v := fun u h => by
    rw [hd] at h
    simp [Act.put, hlt] at h
    exact h
  unfold wpW
  rw [if_neg (by rw [hk]; exact Bool.false_ne_true)]
  refine ⟨v, fun l0 hl0 w0 H0 => ?_, h2⟩
  have h := h1 l0 hl0 w0 H0
  unfold wpQuiet at h
  by_cases hw : Region.wanted o (yielded ops a.tmps) = true
  · rw [if_pos hw] at h
    obtain ⟨u, hu, hk⟩ := h
    obtain rfl := inj u hk
    exact .inl ⟨hw, hu⟩
  · rw [if_neg hw] at h
    exact .inr ⟨by simpa using hw, (inj undef h).symm⟩
theorem wpW_loud {loud : List Nat} {K : List Thing → Act → Prop} {o : Oper} {rest : List Oper} {k : Nat} {l : List Thing} {a : Act} (hk : loud.contains k = true) (h : LoudG P ops W o l a fun l' u => G l' ∧ wpW P ops W G loud K rest (k + 1) l' (a.put o.dst u)) : wpW P ops W G loud K (o :: rest) k l a := by
  unfold wpW
  rw [if_pos hk]
  exact h
end
section
variable {ops : Array Oper} {W : World} {G : List Thing → Prop} {loud : List Nat} {K : List Thing → Act → Prop} {rest : List Oper} {k : Nat} {l : List Thing} {a : Act} {T n : Nat} {z : Array Value}
theorem wpW_allocR {dst : Option Tmp} {ty : TypeId} {pos : String} {after : Array Edge} {guard : Option (Nat × Bool)} (RT : RowTy T n z) (hk : loud.contains k = true) (hw : Region.wanted ⟨dst, .alloc T, ty, pos, after, guard⟩ (yielded ops a.tmps) = true)
    (hG : ∀ p, G (Cel p z T :: l)) (h : ∀ p, wpW Try.prog ops W G loud K rest (k + 1) (Cel p z T :: l) (a.put dst (.pointer (some ⟨p, 0, none⟩)))) : wpW Try.prog ops W G loud K (⟨dst, .alloc T, ty, pos, after, guard⟩ :: rest) k l a := by
  refine wpW_loud hk ⟨hw, fun w H => ⟨Cel w.heap.size z T :: l, .pointer (some ⟨w.heap.size, 0, none⟩), w.alloc (.cells z T), .inl ?_, H.alloc _ _, hG _, h _⟩⟩
  have hz := RT.zero
  cases hi : Try.prog.info? T with
  | none => rw [hi] at hz; cases hz
  | some i =>
    rw [hi] at hz
    have hz' : i.zero = some (.agg z) := hz
    have r2 : (zeroValue T).run Try.prog w = .ok (.agg z) w := by simp [zeroValue, typeInfo, hi, hz', go_sem]
    unfold execOp
    simp only [Instr.alloc, Sem.run_bind, r2, Result.andThen_ok, newVar, newRow, Value.cells]
    rfl
theorem run_storeR (RT : RowTy T n z) {w : World} {b off : Nat} {c c0 : Array Value} {t : TypeId} (hc : Cells n c) (hb : w.heap[b]? = some (.cells c0 t (0, 0))) (hn : off + n ≤ c0.size) :
    (Instr.storeAt T (.pointer (some ⟨b, off, none⟩)) (.agg c)).run Try.prog w = .ok () (setBlk w b (splice c0 off c)) := by
  have ht : w.there b off c.size := fun j hj => ⟨by
    rw [cell_of_row w b (off + j) c0 t _ hb, Array.getElem?_eq_getElem (by have := hc.1; omega)]; rfl, frozen_of_row w b (off + j) c0 t hb⟩
  simp only [Instr.storeAt, Instr.sureAddr, Sem.run_bind, Sem.run_pure, Result.andThen_ok, run_storeVar_mid w b off T c ht (by rw [RT.size, hc.1]) hc.2]
  rw [setCells_blk b c.toList off w c0 t _ hb (by have := hc.1; simp; omega)]
  unfold splice
  simp
theorem wpW_storeR {dst : Option Tmp} {ty : TypeId} {pos : String} {after : Array Edge} {guard : Option (Nat × Bool)} {x y : Operand} {b off : Nat} {c2 : Array Value} (RT : RowTy T n z) (hk : loud.contains k = true) (hw : Region.wanted ⟨dst, .store T x y, ty, pos, after, guard⟩ (yielded ops a.tmps) = true) (hx : a.eval x = .pointer (some ⟨b, off, none⟩)) (hy : a.eval y = .agg c2) (hc : Cells n c2)
    {c c1 : Array Value} {t : TypeId} {l' : List Thing} (m : Cel b c t ∈ l) (hn : off + n ≤ c.size) (hs : splice c off c2 = c1) (r : Repl l (Cel b c t) (Cel b c1 t) l') (hG : G l')
    (h : wpW Try.prog ops W G loud K rest (k + 1) l' (a.put dst undef)) : wpW Try.prog ops W G loud K (⟨dst, .store T x y, ty, pos, after, guard⟩ :: rest) k l a := by
  subst hs
  refine wpW_loud hk ⟨hw, fun w H => ⟨l', undef, setBlk w b (splice c off c2), .inr ⟨?_, rfl⟩, H.set r, hG, h⟩⟩
  unfold execOp
  simp only [hx, hy, Sem.run_bind, run_storeR RT hc (H.blk m) hn, Result.andThen_ok]
  rfl
theorem run_storeC {T : TypeId} (CT : CellTy T) {w : World} {b off : Nat} {v : Value} {c0 : Array Value} {t : TypeId} (hc : v.cells = #[v] ∧ v.oneCell' = true) (hb : w.heap[b]? = some (.cells c0 t (0, 0))) (hn : off < c0.size) :
    (Instr.storeAt T (.pointer (some ⟨b, off, none⟩)) v).run Try.prog w = .ok () (setBlk w b (c0.setIfInBounds off v)) := by
  have hsz : (sizeOf T).run Try.prog w = .ok 1 w := by
    have := CT.size
    cases hi : Try.prog.info? T with
    | none => rw [hi] at this; cases this
    | some i => rw [hi] at this; simp at this; simp [sizeOf, typeInfo, hi, this, go_sem]
  have hcell : (w.cell? ⟨b, off, none⟩).isSome = true := by rw [cell_of_row w b off c0 t _ hb, Array.getElem?_eq_getElem hn]; rfl
  have hfr : w.frozen? ⟨b, off, none⟩ = false := frozen_of_row w b off c0 t hb
  have e : setBlk w b (c0.setIfInBounds off v) = w.setCell ⟨b, off, none⟩ v := by
    refine World.eq_of ?_ rfl rfl rfl rfl
    apply Array.ext_getElem?
    intro j
    by_cases e : j = b
    · subst e; rw [setBlk_same _ j _ c0 t _ hb, Joins.block_setCell (i := off) hb]
    · rw [setBlk_block _ _ _ _ e, Below.heap_setCell _ _ _ _ e]
  rw [e]
  obtain ⟨u, hu⟩ := Option.isSome_iff_exists.1 hcell
  simp only [Instr.storeAt, Instr.sureAddr, storeVar, Sem.run_bind, Sem.run_pure, Result.andThen_ok, hsz, hc.1]
  have hst : (store ⟨b, off, none⟩ v).run Try.prog w = .ok () (w.setCell ⟨b, off, none⟩ v) := by rw [run_store _ _ _ _ _ hc.2, hu]; simp [hfr]
  simp [storeCells, go_sem, hst]
theorem wpO_storeC {lo : List Oper} {ks : List Nat} {k : Nat} {T : TypeId} {dst : Option Tmp} {ty : TypeId} {pos : String} {after : Array Edge} {guard : Option (Nat × Bool)} {x y : Operand} {b off : Nat} {v : Value} (CT : CellTy T) (ho : lo[k]? = some ⟨dst, .store T x y, ty, pos, after, guard⟩) (hk : loud.contains k = true) (hw : Region.wanted ⟨dst, .store T x y, ty, pos, after, guard⟩ (yielded lo.toArray a.tmps) = true) (hx : a.eval x = .pointer (some ⟨b, off, none⟩)) (hy : a.eval y = v) (hc : v.cells = #[v] ∧ v.oneCell' = true)
    {c c1 : Array Value} {t : TypeId} {l' : List Thing} (m : Cel b c t ∈ l) (hn : off < c.size) (hs : c.setIfInBounds off v = c1) (r : Repl l (Cel b c t) (Cel b c1 t) l') (hG : G l')
    (h : wpO Try.prog lo.toArray W G loud K ks l' (a.put dst undef)) : wpO Try.prog lo.toArray W G loud K (k :: ks) l a := by
  subst hs
  refine wpO_loud ho hk ⟨hw, fun w H => ⟨l', undef, setBlk w b (c.setIfInBounds off v), .inr ⟨?_, rfl⟩, H.set r, hG, h⟩⟩
  unfold execOp
  simp only [hx, hy, Sem.run_bind, run_storeC CT hc (H.blk m) hn, Result.andThen_ok]
  rfl
theorem wpO_storeI {lo : List Oper} {ks : List Nat} {k : Nat} {T : TypeId} {dst : Option Tmp} {ty : TypeId} {pos : String} {after : Array Edge} {guard : Option (Nat × Bool)} {x y : Operand} {b off : Nat} {k0 : IntKind} {n0 : Int} (CT : CellTy T) (ho : lo[k]? = some ⟨dst, .store T x y, ty, pos, after, guard⟩) (hk : loud.contains k = true) (hw : Region.wanted ⟨dst, .store T x y, ty, pos, after, guard⟩ (yielded lo.toArray a.tmps) = true) (hx : a.eval x = .pointer (some ⟨b, off, none⟩)) (hy : a.eval y = .int k0 n0)
    {c c1 : Array Value} {t : TypeId} {l' : List Thing} (m : Cel b c t ∈ l) (hn : off < c.size) (hs : c.setIfInBounds off (.int k0 n0) = c1) (r : Repl l (Cel b c t) (Cel b c1 t) l') (hG : G l')
    (h : wpO Try.prog lo.toArray W G loud K ks l' (a.put dst undef)) : wpO Try.prog lo.toArray W G loud K (k :: ks) l a := wpO_storeC CT ho hk hw hx hy ⟨rfl, rfl⟩ m hn hs r hG h
theorem wpO_storeB {lo : List Oper} {ks : List Nat} {k : Nat} {T : TypeId} {dst : Option Tmp} {ty : TypeId} {pos : String} {after : Array Edge} {guard : Option (Nat × Bool)} {x y : Operand} {b off : Nat} {b0 : Bool} (CT : CellTy T) (ho : lo[k]? = some ⟨dst, .store T x y, ty, pos, after, guard⟩) (hk : loud.contains k = true) (hw : Region.wanted ⟨dst, .store T x y, ty, pos, after, guard⟩ (yielded lo.toArray a.tmps) = true) (hx : a.eval x = .pointer (some ⟨b, off, none⟩)) (hy : a.eval y = .bool b0)
    {c c1 : Array Value} {t : TypeId} {l' : List Thing} (m : Cel b c t ∈ l) (hn : off < c.size) (hs : c.setIfInBounds off (.bool b0) = c1) (r : Repl l (Cel b c t) (Cel b c1 t) l') (hG : G l')
    (h : wpO Try.prog lo.toArray W G loud K ks l' (a.put dst undef)) : wpO Try.prog lo.toArray W G loud K (k :: ks) l a := wpO_storeC CT ho hk hw hx hy ⟨rfl, rfl⟩ m hn hs r hG h
end
end Go.Proofs.Ytglehneaphigdaa

/- graphs.Graph in memory: a table of capacities; what its readers answer. -/
namespace Go.Proofs.Ytglehneaphigdaa
open Go.RowKit
set_option linter.unusedSimpArgs false
set_option linter.unusedVariables false

theorem cell_i64 : CellTy 2 := ⟨⟨_, Try.underlying2, rfl⟩, by kernel_rfl⟩
theorem cell_bool : CellTy 4 := ⟨⟨_, Try.underlying4, rfl⟩, by kernel_rfl⟩
theorem cell_party : CellTy 33 := ⟨⟨_, Try.underlying33, rfl⟩, by kernel_rfl⟩

/-- A row of n cells. -/
def tab (n : Nat) (f : Nat → Value) : Array Value := Array.ofFn (n := n) fun i => f i.val
theorem tab_size (n : Nat) (f : Nat → Value) : (tab n f).size = n := by simp [tab]
theorem tab_get {n i : Nat} (f : Nat → Value) (h : i < n) : (tab n f)[i]? = some (f i) := by simp [tab, h]
theorem tab_set {n i : Nat} (f : Nat → Value) (v : Value) (h : i < n) : (tab n f).setIfInBounds i v = tab n fun j => if j = i then v else f j := by
  apply Array.ext_getElem?
  intro j
  rw [Array.getElem?_setIfInBounds]
  by_cases hj : j < n
  · rw [tab_get _ hj]
    by_cases e : i = j
    · subst e; rw [if_pos rfl, if_pos (by rw [tab_size]; exact h), tab_get _ hj]; simp
    · rw [if_neg e, tab_get _ hj, if_neg (fun h => e h.symm)]
  · have h1 : ∀ g : Nat → Value, (tab n g)[j]? = none := fun g => by simp [tab, hj]
    rw [h1, h1]
    split
    · rw [if_neg (by rw [tab_size]; omega)]
    · rfl
theorem tab_ext {n m lo : Nat} (f : Nat → Value) (h : lo + m ≤ n) : (tab n f).extract lo (lo + m) = tab m fun j => f (lo + j) := by
  apply Array.ext_getElem?
  intro j
  rw [Array.getElem?_extract]
  by_cases hj : j < m
  · rw [tab_get _ hj, if_pos (by rw [tab_size]; omega), tab_get _ (by omega)]
  · rw [if_neg (by omega)]
    simp [tab, hj]
theorem tab_congr {n : Nat} {f g : Nat → Value} (h : ∀ i, i < n → f i = g i) : tab n f = tab n g := by
  apply Array.ext_getElem?
  intro j
  by_cases hj : j < n
  · rw [tab_get _ hj, tab_get _ hj, h j hj]
  · simp [tab, hj]
theorem tab_cells {n : Nat} {f : Nat → Value} (h : ∀ i, i < n → (f i).oneCell' = true) : Cells n (tab n f) := by
  refine ⟨tab_size _ _, ?_⟩
  rw [Array.all_eq_true_iff_forall_mem]
  intro x hx
  obtain ⟨i, hi, rfl⟩ := Array.mem_iff_getElem.1 hx
  rw [tab_size] at hi
  have := tab_get f hi
  rw [Array.getElem?_eq_getElem (by rw [tab_size]; exact hi)] at this
  rw [Option.some.inj this]
  exact h i hi

/-- Capacities by both ends. -/
abbrev Caps := Nat → Nat → Int
def upd2 {α : Type} (c : Nat → Nat → α) (a b : Nat) (v : α) : Nat → Nat → α := fun x y => if x = a ∧ y = b then v else c x y
/-- A graph's cells. -/
def gr (c : Caps) (m : Bool) : Array Value := tab 290 fun i => if i < 289 then .int .i64 (c (i / 17) (i % 17)) else .bool m
def mat (c : Caps) : Array Value := tab 289 fun i => .int .i64 (c (i / 17) (i % 17))
def matB (t : Nat → Nat → Bool) : Array Value := tab 289 fun i => .bool (t (i / 17) (i % 17))
def row17 (r : Nat → Int) : Array Value := tab 17 fun i => .int .i64 (r i)
theorem idx17 {a b : Nat} (hb : b < 17) : (a * 17 + b) / 17 = a ∧ (a * 17 + b) % 17 = b := by omega
theorem gr_sz (c : Caps) (m : Bool) : (gr c m).size = 290 := tab_size _ _
theorem mat_sz (c : Caps) : (mat c).size = 289 := tab_size _ _
theorem matB_sz (c : Nat → Nat → Bool) : (matB c).size = 289 := tab_size _ _
theorem row17_sz (c : Nat → Int) : (row17 c).size = 17 := tab_size _ _
theorem gr_get (c : Caps) (m : Bool) {a b : Nat} (ha : a < 17) (hb : b < 17) : (gr c m)[a * 17 + b]? = some (.int .i64 (c a b)) := by
  unfold gr
  rw [tab_get _ (by omega), if_pos (by omega), (idx17 hb).1, (idx17 hb).2]
theorem gr_made (c : Caps) (m : Bool) : (gr c m)[289]? = some (.bool m) := by
  unfold gr
  rw [tab_get _ (by omega), if_neg (by omega)]
theorem gr_set (c : Caps) (m : Bool) {a b : Nat} (ha : a < 17) (hb : b < 17) (v : Int) : (gr c m).setIfInBounds (a * 17 + b) (.int .i64 v) = gr (upd2 c a b v) m := by
  unfold gr
  rw [tab_set _ _ (by omega)]
  apply tab_congr
  intro i hi
  unfold upd2
  by_cases e : i = a * 17 + b
  · subst e
    rw [if_pos rfl, if_pos (by omega), if_pos ⟨(idx17 hb).1, (idx17 hb).2⟩]
  · rw [if_neg e]
    split
    · rw [if_neg (by omega)]
    · rfl
theorem gr_caps (c : Caps) (m : Bool) : (gr c m).extract 0 (0 + 289) = mat c := by
  unfold gr mat
  rw [tab_ext _ (by omega)]
  apply tab_congr
  intro i hi
  rw [Nat.zero_add, if_pos hi]
theorem gr_all (c : Caps) (m : Bool) : (gr c m).extract 0 (0 + 290) = gr c m := by
  have := gr_sz c m
  simp [← this]
theorem mat_all (c : Caps) : (mat c).extract 0 (0 + 289) = mat c := by
  have := mat_sz c
  simp [← this]
theorem gr_cells (c : Caps) (m : Bool) : Cells 290 (gr c m) := tab_cells fun i _ => by split <;> rfl
theorem mat_cells (c : Caps) : Cells 289 (mat c) := tab_cells fun i _ => rfl
theorem gr_splice (c0 c : Caps) (m0 m : Bool) : splice (gr c0 m0) 0 (gr c m) = gr c m := splice_all (by rw [gr_sz, gr_sz])
theorem mat_splice (c0 c : Caps) : splice (mat c0) 0 (mat c) = mat c := splice_all (by rw [mat_sz, mat_sz])
theorem matB_get (c : Nat → Nat → Bool) {a b : Nat} (ha : a < 17) (hb : b < 17) : (matB c)[a * 17 + b]? = some (.bool (c a b)) := by
  unfold matB
  rw [tab_get _ (by omega), (idx17 hb).1, (idx17 hb).2]
theorem matB_set (c : Nat → Nat → Bool) {a b : Nat} (ha : a < 17) (hb : b < 17) (v : Bool) : (matB c).setIfInBounds (a * 17 + b) (.bool v) = matB (upd2 c a b v) := by
  unfold matB
  rw [tab_set _ _ (by omega)]
  apply tab_congr
  intro i hi
  unfold upd2
  by_cases e : i = a * 17 + b
  · subst e
    rw [if_pos rfl, if_pos ⟨(idx17 hb).1, (idx17 hb).2⟩]
  · rw [if_neg e, if_neg (by omega)]
theorem row_gr : RowTy 81 290 (gr (fun _ _ => 0) false) := ⟨⟨_, Try.underlying81, rfl⟩, by kernel_rfl, by kernel_rfl⟩
theorem row_mat : RowTy 79 289 (mat fun _ _ => 0) := ⟨⟨_, Try.underlying79, rfl⟩, by kernel_rfl, by kernel_rfl⟩
theorem row_matB : RowTy 88 289 (matB fun _ _ => false) := ⟨⟨_, Try.underlying88, rfl⟩, by kernel_rfl, by kernel_rfl⟩
theorem row_17 : RowTy 52 17 (row17 fun _ => 0) := ⟨⟨_, Try.underlying52, rfl⟩, by kernel_rfl, by kernel_rfl⟩
abbrev Gr (p : Nat) (c : Caps) : Thing := Cel p (gr c true) 81
/-- May a party be? -/
def mayP (a : Nat) : Bool := decide (1 ≤ a) && decide (a ≤ 16)
section
variable {W w : World} {l : List Thing} {p : Nat} {c : Caps} {m : Bool} {R : Ending → World → Prop}
set_option maxRecDepth 100000
set_option maxHeartbeats 1000000
theorem may_ans (a : Nat) (h : a ≤ 255) : Ans 44 #[.int .u8 (a : Int)] (.bool (mayP a)) := by
  intro w
  unfold mayP
  by_cases h1 : 1 ≤ a
  · by_cases h2 : a ≤ 16
    all_goals
      go_enter Try.func44, Try.ntmps44
      go_wp2_with fail
      go_ret
      exact ⟨by simp [h1, h2]; omega, (by repeat (first | exact Ext.refl _ | refine Ext.alloc ?_ _ | refine Ext.ext ?_ _ | refine Ext.drew ?_))⟩
  · go_enter Try.func44, Try.ntmps44
    go_wp2_with fail
    go_ret
    exact ⟨by simp [h1], (by repeat (first | exact Ext.refl _ | refine Ext.alloc ?_ _ | refine Ext.ext ?_ _ | refine Ext.drew ?_))⟩
theorem there_nil : Ans 47 #[.pointer none] (.bool false) := by
  intro w
  go_enter Try.func47, Try.ntmps47
  go_wp2_with fail
  go_ret
  exact ⟨rfl, (by repeat (first | exact Ext.refl _ | refine Ext.alloc ?_ _ | refine Ext.ext ?_ _ | refine Ext.drew ?_))⟩
theorem there_H (h : Cel p (gr c m) 81 ∈ l) : AnsH W l 47 #[.pointer (some ⟨p, 0, none⟩)] (.bool m) := by
  intro w H
  go_enter Try.func47, Try.ntmps47
  go_wp2_with (first | go_skip | ((with_reducible show wpList _ _ _ (_ :: _) _ _); (with_reducible apply wpl_loadCH); (· exact cell_bool); (· rfl); (· rfl); (· exact H); (· exact h); (· exact gr_made _ _); (simp only [Act.put, List.setIfInBounds_toArray, List.set_cons_zero, List.set_cons_succ])))
  go_ret
  exact ⟨rfl, H⟩
theorem there_call (H : Heap W l w) (h : Cel p (gr c m) 81 ∈ l) (k : ∀ w', Heap W l w' → R (.returned (.bool m)) w') : Calls Try.prog 47 #[.pointer (some ⟨p, 0, none⟩)] w R := (there_H h).call H k
/-- A capacity as it is told: none of whom may not be. -/
def capOf (c : Caps) (a b : Nat) : Int := if mayP a ∧ mayP b then c a b else 0
theorem cap_nil (a b : Nat) (ha : a ≤ 255) (hb : b ≤ 255) : Ans 21 #[.pointer none, .int .u8 (a : Int), .int .u8 (b : Int)] (.int .i64 0) := by
  intro w
  have h := there_nil
  go_enter Try.func21, Try.ntmps21
  go_wp2_with (first | go_skip | ((with_reducible refine Ans.call (by assumption) ?_); intro _))
  go_ret
  exact ⟨rfl, (by repeat (first | exact Ext.refl _ | refine Ext.alloc ?_ _ | refine Ext.ext ?_ _ | refine Ext.drew ?_))⟩
theorem cap_zero (a b : Nat) (ha : a ≤ 255) (hb : b ≤ 255) (h : Cel p (gr c false) 81 ∈ l) : AnsH W l 21 #[.pointer (some ⟨p, 0, none⟩), .int .u8 (a : Int), .int .u8 (b : Int)] (.int .i64 0) := by
  intro w H
  go_enter Try.func21, Try.ntmps21
  go_wp2_with (first | go_skip | ((with_reducible apply there_call H); (· exact h); (clear H; intro _ H)))
  go_ret
  exact ⟨rfl, H⟩
theorem mayP_true {a : Nat} (h : mayP a = true) : 1 ≤ a ∧ a ≤ 16 := by simpa [mayP] using h
theorem cap_H (a b : Nat) (ha : a ≤ 255) (hb : b ≤ 255) (h : Gr p c ∈ l) : AnsH W l 21 #[.pointer (some ⟨p, 0, none⟩), .int .u8 (a : Int), .int .u8 (b : Int)] (.int .i64 (capOf c a b)) := by
  intro w H
  have m1 := may_ans a ha
  have m2 := may_ans b hb
  cases h1 : mayP a
  · rw [show capOf c a b = 0 by simp [capOf, h1]]
    rw [h1] at m1
    clear h1
    go_enter Try.func21, Try.ntmps21
    go_wp2_with (first | go_skip | ((with_reducible apply there_call H); (· exact h); (clear H; intro _ H)) | ((with_reducible refine Ans.callH (by assumption) H ?_); clear H; intro _ H))
    go_ret
    exact ⟨rfl, H⟩
  · cases h2 : mayP b
    · rw [show capOf c a b = 0 by simp [capOf, h2]]
      rw [h1] at m1
      rw [h2] at m2
      clear h1 h2
      go_enter Try.func21, Try.ntmps21
      go_wp2_with (first | go_skip | ((with_reducible apply there_call H); (· exact h); (clear H; intro _ H)) | ((with_reducible refine Ans.callH (by assumption) H ?_); clear H; intro _ H))
      go_ret
      exact ⟨rfl, H⟩
    · rw [show capOf c a b = c a b by simp [capOf, h1, h2]]
      rw [h1] at m1
      rw [h2] at m2
      have a1 : a < 17 := by have := mayP_true h1; omega
      have b1 : b < 17 := by have := mayP_true h2; omega
      clear h1 h2
      go_enter Try.func21, Try.ntmps21
      go_wp2_with (first | go_skip | ((with_reducible apply there_call H); (· exact h); (clear H; intro _ H)) | ((with_reducible refine Ans.callH (by assumption) H ?_); clear H; intro _ H) | ((with_reducible show wpList _ _ _ (_ :: _) _ _); (with_reducible apply wpl_loadCH); (· exact cell_i64); (· rfl); (· rfl); (· exact H); (· exact h); (· go_loud (exact gr_get _ _ a1 b1)); (simp only [Act.put, List.setIfInBounds_toArray, List.set_cons_zero, List.set_cons_succ])))
      go_ret
      exact ⟨rfl, H⟩
end
end Go.Proofs.Ytglehneaphigdaa

/- graphs.Graph: Push, Copy, all, Same. -/
namespace Go.Proofs.Ytglehneaphigdaa
open Go.RowKit
set_option linter.unusedSimpArgs false
set_option linter.unusedVariables false
/-- Two arrays are the same where each part is. -/
theorem run_eq_arr (d : Nat) {T e n sz : Nat} {ca cb : Array Value} (hu : Try.prog.underlying T = some (.array n e)) (hs : ∀ w, (sizeOf e).run Try.prog w = .ok sz w) (va vb : Nat → Value) (eq : Nat → Bool) (w : World)
    (h1 : ∀ i, i < n → (part e ca (i * sz)).run Try.prog w = .ok (va i) w) (h2 : ∀ i, i < n → (part e cb (i * sz)).run Try.prog w = .ok (vb i) w) (h3 : ∀ i, i < n → (Op.equalIn (d + 1) e (va i) (vb i)).run Try.prog w = .ok (eq i) w) :
    (Op.equalIn (d + 2) T (.agg ca) (.agg cb)).run Try.prog w = .ok ((List.range' 0 n 1).all eq) w := by
  have key : ∀ l : List Nat, (∀ i ∈ l, i < n) → ∀ (a : Option Bool × Unit), a.1 = none →
      ((forIn l a fun i (r : Option Bool × Unit) => do
        let va ← part e ca (i * sz)
        let vb ← part e cb (i * sz)
        let e ← Op.equalIn (d + 1) e va vb
        if (!e) = true then pure (ForInStep.done (some false, ())) else pure (ForInStep.yield (none, ()))) : Sem (Option Bool × Unit)).run Try.prog w
      = .ok (if l.all eq then a else (some false, ())) w := by
    intro l
    induction l with
    | nil => intro _ a ha; simp
    | cons i l ih =>
      intro hl a ha
      have hi := hl i (by simp)
      obtain ⟨a1, ⟨⟩⟩ := a
      simp only at ha
      subst ha
      rw [List.forIn_cons]
      simp only [Sem.run_bind, h1 i hi, h2 i hi, h3 i hi, Result.andThen_ok]
      cases he : eq i
      · simp [he]
      · simp only [Bool.not_true, Bool.false_eq_true, if_false, Sem.run_pure, Result.andThen_ok, List.all_cons, he, Bool.true_and]
        exact ih (fun j hj => hl j (by simp [hj])) _ rfl
  rw [show d + 2 = (d + 1) + 1 from rfl, Op.equalIn]
  simp only [Sem.run_bind, run_underlying hu, Result.andThen_ok, hs, Std.Legacy.Range.forIn_eq_forIn_range']
  have h := key (List.range' 0 n 1) (fun i hi => by have := List.mem_range'.1 hi; omega) (none, ()) rfl
  rw [show [:n].size = n by simp [Std.Legacy.Range.size]]
  rw [h]
  cases (List.range' 0 n 1).all eq
  · simp
  · simp
/-- Are the capacities the same? -/
def matSame (c d : Caps) : Bool := (List.range' 0 17 1).all fun a => (List.range' 0 17 1).all fun b => c a b == d a b
theorem matSame_iff {c d : Caps} : matSame c d = true ↔ ∀ a b, a < 17 → b < 17 → c a b = d a b := by
  simp only [matSame, List.all_eq_true, List.mem_range', beq_iff_eq]
  constructor
  · intro h a b ha hb; exact h a ⟨a, ha, by omega⟩ b ⟨b, hb, by omega⟩
  · rintro h a ⟨i, hi, rfl⟩ b ⟨j, hj, rfl⟩; exact h _ _ (by omega) (by omega)
theorem part_row (c : Caps) (i : Nat) (hi : i < 17) (w : World) : (part 52 (mat c) (i * 17)).run Try.prog w = .ok (.agg (row17 (c i))) w := by
  have hu := Try.underlying52
  have hs : (sizeOf 52).run Try.prog w = .ok 17 w := by kernel_rfl
  have e : (mat c).extract (i * 17) (i * 17 + 17) = row17 (c i) := by
    unfold mat row17
    rw [tab_ext _ (by omega)]
    apply tab_congr
    intro j hj
    rw [(idx17 hj).1, (idx17 hj).2]
  simp [part, isAgg, run_underlying hu, Sem.run_bind, hs, e]
theorem part_cell (f : Nat → Int) (i : Nat) (hi : i < 17) (w : World) : (part 2 (row17 f) (i * 1)).run Try.prog w = .ok (.int .i64 (f i)) w := by
  have hu := Try.underlying2
  have e : (row17 f)[i]? = some (.int .i64 (f i)) := tab_get _ hi
  simp [part, isAgg, run_underlying hu, e]
theorem run_eq_row (d : Nat) (f g : Nat → Int) (w : World) : (Op.equalIn (d + 2) 52 (.agg (row17 f)) (.agg (row17 g))).run Try.prog w = .ok ((List.range' 0 17 1).all fun b => f b == g b) w :=
  run_eq_arr d Try.underlying52 (fun w => by kernel_rfl) (fun i => .int .i64 (f i)) (fun i => .int .i64 (g i)) _ w (fun i hi => part_cell f i hi w) (fun i hi => part_cell g i hi w) (fun i hi => run_equalIn_int w d _ .i64 .i64 _ _ Try.underlying2)
theorem run_eq_mat (d : Nat) (c e : Caps) (w : World) : (Op.equalIn (d + 3) 79 (.agg (mat c)) (.agg (mat e))).run Try.prog w = .ok (matSame c e) w :=
  run_eq_arr (d + 1) Try.underlying79 (fun w => by kernel_rfl) (fun i => .agg (row17 (c i))) (fun i => .agg (row17 (e i))) _ w (fun i hi => part_row c i hi w) (fun i hi => part_row e i hi w) (fun i hi => run_eq_row d _ _ w)
theorem run_eql_mat (c e : Caps) (w : World) : (binOp .eql 79 (.agg (mat c)) (.agg (mat e))).run Try.prog w = .ok (.bool (matSame c e)) w := by
  have h : (Op.equal 79 (.agg (mat c)) (.agg (mat e))).run Try.prog w = .ok (matSame c e) w := run_eq_mat 9997 c e w
  simp only [binOp]
  simp [Sem.run_bind, h]
section
variable {ops : Array Oper} {rest : List Oper} {a : Act} {w : World} {Q : Exit → Act → World → Prop} {dst : Option Tmp} {ty : TypeId} {pos : String} {after : Array Edge} {guard : Option (Nat × Bool)} {p q : Operand} {c e : Caps}
theorem wpl_eqlMat (hw : Region.wanted ⟨dst, .binOp .eql 79 p q 79, ty, pos, after, guard⟩ (yielded ops a.tmps) = true) (hp : a.eval p = .agg (mat c)) (hq : a.eval q = .agg (mat e))
    (h : wpList Try.prog ops Q rest (a.put dst (.bool (matSame c e))) w) : wpList Try.prog ops Q (⟨dst, .binOp .eql 79 p q 79, ty, pos, after, guard⟩ :: rest) a w := by
  refine wpl_pure hw _ (fun w => ?_) h
  have hg : (Try.prog.eqGuardType Try.prog.depth 79) = false := by kernel_rfl
  unfold execOp
  simp only [hp, hq, Sem.run_bind, run_eql_mat c e]
  simp [eqGuard, hg, run_eql_mat c e]
end
section
variable {W w : World} {l : List Thing} {p q : Nat} {c d : Caps} {m : Bool} {R : Ending → World → Prop}
set_option maxRecDepth 100000
set_option maxHeartbeats 1000000
abbrev zeroC : Caps := fun _ _ => 0
theorem all_nil : Ans 50 #[.pointer none] (.agg (mat zeroC)) := by
  intro w
  have h := there_nil
  have H := Heap.start w
  go_enter Try.func50, Try.ntmps50
  go_wp2_with (first | go_skip | ((with_reducible refine Ans.callH (by assumption) H ?_); clear H; intro _ H) | ((with_reducible show wpList _ _ _ (_ :: _) _ _); (with_reducible apply wpl_allocRH row_mat); (· rfl); (· exact H); (clear H; intro pz _ H); (simp only [Act.put, List.setIfInBounds_toArray, List.set_cons_zero, List.set_cons_succ])) | ((with_reducible show wpList _ _ _ (_ :: _) _ _); (with_reducible apply wpl_loadRH row_mat); (· rfl); (· rfl); (· exact H); (· (repeat (first | (with_reducible exact List.mem_cons_self) | with_reducible apply List.mem_cons_of_mem))); (· (simp only [mat_sz, Nat.reduceAdd, Nat.reduceLeDiff, Nat.le_refl]; done)); (· with_reducible exact mat_all ..); (simp only [Act.put, List.setIfInBounds_toArray, List.set_cons_zero, List.set_cons_succ])) | ((with_reducible show wpList _ _ _ (_ :: _) _ _); (with_reducible apply wpl_storeRH row_mat); (· rfl); (· rfl); (· rfl); (· with_reducible exact mat_cells ..); (· exact H); (· (repeat (first | (with_reducible exact List.mem_cons_self) | with_reducible apply List.mem_cons_of_mem))); (· (simp only [mat_sz, Nat.reduceAdd, Nat.reduceLeDiff, Nat.le_refl]; done)); (· with_reducible exact mat_splice ..); (· (repeat (first | (with_reducible exact Repl.here) | with_reducible apply Repl.there))); (clear H; intro _ H); (simp only [Act.put, List.setIfInBounds_toArray, List.set_cons_zero, List.set_cons_succ])))
  exact ret_row1H row_mat rfl rfl rfl H List.mem_cons_self (mat_sz _) ⟨rfl, H.low⟩
theorem all_H (h : Cel p (gr c m) 81 ∈ l) (hz : m = false → c = zeroC) : AnsH W l 50 #[.pointer (some ⟨p, 0, none⟩)] (.agg (mat c)) := by
  intro w H
  cases m
  · obtain rfl := hz rfl
    clear hz
    go_enter Try.func50, Try.ntmps50
    go_wp2_with (first | go_skip | ((with_reducible apply there_call H); (· with_reducible first | exact h | exact List.mem_cons_of_mem _ h); (clear H; intro _ H)) | ((with_reducible show wpList _ _ _ (_ :: _) _ _); (with_reducible apply wpl_allocRH row_mat); (· rfl); (· exact H); (clear H; intro pz _ H); (simp only [Act.put, List.setIfInBounds_toArray, List.set_cons_zero, List.set_cons_succ])) | ((with_reducible show wpList _ _ _ (_ :: _) _ _); (with_reducible apply wpl_loadRH row_mat); (· rfl); (· rfl); (· exact H); (· (repeat (first | (with_reducible exact List.mem_cons_self) | with_reducible apply List.mem_cons_of_mem))); (· (simp only [mat_sz, Nat.reduceAdd, Nat.reduceLeDiff, Nat.le_refl]; done)); (· with_reducible exact mat_all ..); (simp only [Act.put, List.setIfInBounds_toArray, List.set_cons_zero, List.set_cons_succ])) | ((with_reducible show wpList _ _ _ (_ :: _) _ _); (with_reducible apply wpl_storeRH row_mat); (· rfl); (· rfl); (· rfl); (· with_reducible exact mat_cells ..); (· exact H); (· (repeat (first | (with_reducible exact List.mem_cons_self) | with_reducible apply List.mem_cons_of_mem))); (· (simp only [mat_sz, Nat.reduceAdd, Nat.reduceLeDiff, Nat.le_refl]; done)); (· with_reducible exact mat_splice ..); (· (repeat (first | (with_reducible exact Repl.here) | with_reducible apply Repl.there))); (clear H; intro _ H); (simp only [Act.put, List.setIfInBounds_toArray, List.set_cons_zero, List.set_cons_succ])))
    exact ret_row1H row_mat rfl rfl rfl H List.mem_cons_self (mat_sz _) ⟨rfl, H.tail⟩
  · clear hz
    go_enter Try.func50, Try.ntmps50
    go_wp2_with (first
      | go_skip
      | ((with_reducible apply there_call H); (· with_reducible first | exact h | exact List.mem_cons_of_mem _ h); (clear H; intro _ H))
      | ((with_reducible show wpList _ _ _ (_ :: _) _ _); (with_reducible apply wpl_allocRH row_mat); (· rfl); (· exact H); (clear H; intro pz _ H); (simp only [Act.put, List.setIfInBounds_toArray, List.set_cons_zero, List.set_cons_succ]))
      | ((with_reducible show wpList _ _ _ (_ :: _) _ _); (with_reducible apply wpl_loadRH row_mat); (· rfl); (· rfl); (· exact H); (· exact List.mem_cons_of_mem _ h); (· (simp only [gr_sz, Nat.reduceAdd, Nat.reduceLeDiff]; done)); (· exact gr_caps _ _); (simp only [Act.put, List.setIfInBounds_toArray, List.set_cons_zero, List.set_cons_succ]))
      | ((with_reducible show wpList _ _ _ (_ :: _) _ _); (with_reducible apply wpl_loadRH row_mat); (· rfl); (· rfl); (· exact H); (· (repeat (first | (with_reducible exact List.mem_cons_self) | with_reducible apply List.mem_cons_of_mem))); (· (simp only [mat_sz, Nat.reduceAdd, Nat.reduceLeDiff, Nat.le_refl]; done)); (· with_reducible exact mat_all ..); (simp only [Act.put, List.setIfInBounds_toArray, List.set_cons_zero, List.set_cons_succ]))
      | ((with_reducible show wpList _ _ _ (_ :: _) _ _); (with_reducible apply wpl_storeRH row_mat); (· rfl); (· rfl); (· rfl); (· with_reducible exact mat_cells ..); (· exact H); (· (repeat (first | (with_reducible exact List.mem_cons_self) | with_reducible apply List.mem_cons_of_mem))); (· (simp only [mat_sz, Nat.reduceAdd, Nat.reduceLeDiff, Nat.le_refl]; done)); (· with_reducible exact mat_splice ..); (· (repeat (first | (with_reducible exact Repl.here) | with_reducible apply Repl.there))); (clear H; intro _ H); (simp only [Act.put, List.setIfInBounds_toArray, List.set_cons_zero, List.set_cons_succ])))
    exact ret_row1H row_mat rfl rfl rfl H List.mem_cons_self (mat_sz _) ⟨rfl, H.tail⟩
theorem same_ans (v1 v2 : Value) (h1 : AnsH W l 50 #[v1] (.agg (mat c))) (h2 : AnsH W l 50 #[v2] (.agg (mat d))) : AnsH W l 25 #[v1, v2] (.bool (matSame c d)) := by
  intro w H
  go_enter Try.func25, Try.ntmps25
  go_wp2_with (first | go_skip | ((with_reducible refine AnsH.call (by assumption) H ?_); clear H; intro _ H) | ((with_reducible show wpList _ _ _ (_ :: _) _ _); (with_reducible apply wpl_eqlMat); (· rfl); (· rfl); (· rfl); (simp only [Act.put, List.setIfInBounds_toArray, List.set_cons_zero, List.set_cons_succ])))
  go_ret
  exact ⟨rfl, H⟩
theorem copy_nil : Ans 17 #[.pointer none] (.pointer none) := by
  intro w
  have h := there_nil
  go_enter Try.func17, Try.ntmps17
  go_wp2_with (first | go_skip | ((with_reducible refine Ans.call (by assumption) ?_); intro _))
  go_ret
  exact ⟨rfl, (by repeat (first | exact Ext.refl _ | refine Ext.alloc ?_ _ | refine Ext.ext ?_ _ | refine Ext.drew ?_))⟩
theorem copy_zero (h : Cel p (gr c false) 81 ∈ l) : AnsH W l 17 #[.pointer (some ⟨p, 0, none⟩)] (.pointer none) := by
  intro w H
  go_enter Try.func17, Try.ntmps17
  go_wp2_with (first | go_skip | ((with_reducible apply there_call H); (· exact h); (clear H; intro _ H)))
  go_ret
  exact ⟨rfl, H⟩
theorem copy_H (H : Heap W l w) (h : Gr p c ∈ l) : Calls Try.prog 17 #[.pointer (some ⟨p, 0, none⟩)] w fun e w' => ∃ q, e = .returned (.pointer (some ⟨q, 0, none⟩)) ∧ Heap W (Gr q c :: l) w' := by
  go_enter Try.func17, Try.ntmps17
  go_wp2_with (first
    | go_skip
    | ((with_reducible apply there_call H); (· exact h); (clear H; intro _ H))
    | ((with_reducible show wpList _ _ _ (_ :: _) _ _); (with_reducible apply wpl_allocRH row_gr); (· rfl); (· exact H); (clear H; intro pz _ H); (simp only [Act.put, List.setIfInBounds_toArray, List.set_cons_zero, List.set_cons_succ]))
    | ((with_reducible show wpList _ _ _ (_ :: _) _ _); (with_reducible apply wpl_loadRH row_gr); (· rfl); (· rfl); (· exact H); (· exact h); (· (simp only [gr_sz, Nat.reduceAdd, Nat.reduceLeDiff, Nat.le_refl]; done)); (· exact gr_all _ _); (simp only [Act.put, List.setIfInBounds_toArray, List.set_cons_zero, List.set_cons_succ]))
    | ((with_reducible show wpList _ _ _ (_ :: _) _ _); (with_reducible apply wpl_storeRH row_gr); (· rfl); (· rfl); (· rfl); (· with_reducible exact gr_cells ..); (· exact H); (· (repeat (first | (with_reducible exact List.mem_cons_self) | with_reducible apply List.mem_cons_of_mem))); (· (simp only [gr_sz, Nat.reduceAdd, Nat.reduceLeDiff, Nat.le_refl]; done)); (· with_reducible exact gr_splice ..); (· (repeat (first | (with_reducible exact Repl.here) | with_reducible apply Repl.there))); (clear H; intro _ H); (simp only [Act.put, List.setIfInBounds_toArray, List.set_cons_zero, List.set_cons_succ])))
  go_ret
  exact ⟨pz, rfl, H⟩
theorem push_nil (a b : Nat) (n : Int) : Ans 19 #[.pointer none, .int .u8 (a : Int), .int .u8 (b : Int), .int .i64 n] (.int .i64 2) := by
  intro w
  have h := there_nil
  go_enter Try.func19, Try.ntmps19
  go_wp2_with (first | go_skip | ((with_reducible refine Ans.call (by assumption) ?_); intro _))
  go_ret
  exact ⟨rfl, (by repeat (first | exact Ext.refl _ | refine Ext.alloc ?_ _ | refine Ext.ext ?_ _ | refine Ext.drew ?_))⟩
theorem push_zero (a b : Nat) (n : Int) (h : Cel p (gr c false) 81 ∈ l) : AnsH W l 19 #[.pointer (some ⟨p, 0, none⟩), .int .u8 (a : Int), .int .u8 (b : Int), .int .i64 n] (.int .i64 2) := by
  intro w H
  go_enter Try.func19, Try.ntmps19
  go_wp2_with (first | go_skip | ((with_reducible apply there_call H); (· exact h); (clear H; intro _ H)))
  go_ret
  exact ⟨rfl, H⟩
/-- Behind a push: less one way, more the other. -/
def pushC (c : Caps) (a b : Nat) (n : Int) : Caps := upd2 (upd2 c a b (c a b - n)) b a (upd2 c a b (c a b - n) b a + n)
theorem push_arg (a b : Nat) (n : Int) (h : Gr p c ∈ l) (hn : n < 1) : AnsH W l 19 #[.pointer (some ⟨p, 0, none⟩), .int .u8 (a : Int), .int .u8 (b : Int), .int .i64 n] (.int .i64 1) := by
  intro w H
  go_enter Try.func19, Try.ntmps19
  go_wp2_with (first | go_skip | ((with_reducible apply there_call H); (· exact h); (clear H; intro _ H)))
  go_ret
  exact ⟨rfl, H⟩
theorem push_route (a b : Nat) (n : Int) (ha : a ≤ 255) (hb : b ≤ 255) (h : Gr p c ∈ l) (hn : 1 ≤ n) (hc : capOf c a b < n) : AnsH W l 19 #[.pointer (some ⟨p, 0, none⟩), .int .u8 (a : Int), .int .u8 (b : Int), .int .i64 n] (.int .i64 11) := by
  intro w H
  have hcap := cap_H (W := W) a b ha hb h
  go_enter Try.func19, Try.ntmps19
  go_wp2_with (first | go_skip | ((with_reducible apply there_call H); (· exact h); (clear H; intro _ H)) | ((with_reducible refine AnsH.call (by assumption) H ?_); clear H; intro _ H))
  go_ret
  exact ⟨rfl, H⟩
theorem push_ok (a b : Nat) (n : Int) (h1 : 1 ≤ a) (h2 : a ≤ 16) (h3 : 1 ≤ b) (h4 : b ≤ 16) (H : Heap W (Gr p c :: l) w) (hn : 1 ≤ n) (hc : n ≤ c a b) (hx : c a b ≤ 4611686018427387904) (hy : 0 ≤ upd2 c a b (c a b - n) b a) (hz : upd2 c a b (c a b - n) b a + n ≤ 9223372036854775807) :
    Calls Try.prog 19 #[.pointer (some ⟨p, 0, none⟩), .int .u8 (a : Int), .int .u8 (b : Int), .int .i64 n] w fun e w' => e = .returned (.int .i64 0) ∧ Heap W (Gr p (pushC c a b n) :: l) w' := by
  have hcap := cap_H (W := W) (l := Gr p c :: l) (p := p) (c := c) a b (by omega) (by omega) List.mem_cons_self
  rw [show capOf c a b = c a b by simp [capOf, mayP, h1, h2, h3, h4]] at hcap
  have a1 : a < 17 := by omega
  have b1 : b < 17 := by omega
  have hs1 : wrap64 (c a b - n) = c a b - n := IntWalk.wrap64_in _ ⟨by omega, by omega⟩
  have hs2 : wrap64 (upd2 c a b (c a b - n) b a + n) = upd2 c a b (c a b - n) b a + n := IntWalk.wrap64_in _ ⟨by omega, by omega⟩
  unfold pushC
  go_enter Try.func19, Try.ntmps19
  go_wp2_with (first | go_skip | ((with_reducible apply there_call H); (· exact List.mem_cons_self); (clear H; intro _ H)) | ((with_reducible refine AnsH.call (by assumption) H ?_); clear H; intro _ H))
  refine wp_region_H_tail 14 H (by kernel_rfl) (by kernel_rfl) ?_
  simp only [List.take_succ_cons, List.take_zero, List.drop_succ_cons, List.drop_zero]
  repeat (first | go_big_quiet_skip | ((with_reducible apply wpQ_loadCH); (· exact cell_i64); (· rfl); (· rfl); (· exact List.mem_cons_self); (· exact gr_get _ _ a1 b1); (simp only [Act.put, List.setIfInBounds_toArray, List.set_cons_zero, List.set_cons_succ])) | go_big_quiet_step (fail))
  refine wpQuiet_nil ?_
  clear H
  intro _ H
  try rw [hs1]
  go_wp2_with ((with_reducible show wpList _ _ _ (_ :: _) _ _); (with_reducible apply wpl_storeIH); (· exact cell_i64); (· rfl); (· rfl); (· rfl); (· exact H); (· (repeat (first | (with_reducible exact List.mem_cons_self) | with_reducible apply List.mem_cons_of_mem))); (· (rw [gr_sz]; omega)); (· exact gr_set _ _ a1 b1 _); (· (repeat (first | (with_reducible exact Repl.here) | with_reducible apply Repl.there))); (clear H; intro _ H); (simp only [Act.put, List.setIfInBounds_toArray, List.set_cons_zero, List.set_cons_succ]))
  refine wp_region_H_tail 14 H (by kernel_rfl) (by kernel_rfl) ?_
  simp only [List.take_succ_cons, List.take_zero, List.drop_succ_cons, List.drop_zero]
  repeat (first | go_big_quiet_skip | ((with_reducible apply wpQ_loadCH); (· exact cell_i64); (· rfl); (· rfl); (· exact List.mem_cons_self); (· exact gr_get _ _ b1 a1); (simp only [Act.put, List.setIfInBounds_toArray, List.set_cons_zero, List.set_cons_succ])) | go_big_quiet_step (fail))
  refine wpQuiet_nil ?_
  clear H
  intro _ H
  try rw [hs2]
  go_wp2_with ((with_reducible show wpList _ _ _ (_ :: _) _ _); (with_reducible apply wpl_storeIH); (· exact cell_i64); (· rfl); (· rfl); (· rfl); (· exact H); (· (repeat (first | (with_reducible exact List.mem_cons_self) | with_reducible apply List.mem_cons_of_mem))); (· (rw [gr_sz]; omega)); (· exact gr_set _ _ b1 a1 _); (· (repeat (first | (with_reducible exact Repl.here) | with_reducible apply Repl.there))); (clear H; intro _ H); (simp only [Act.put, List.setIfInBounds_toArray, List.set_cons_zero, List.set_cons_succ]))
  go_ret
  exact ⟨rfl, H⟩
end
end Go.Proofs.Ytglehneaphigdaa
