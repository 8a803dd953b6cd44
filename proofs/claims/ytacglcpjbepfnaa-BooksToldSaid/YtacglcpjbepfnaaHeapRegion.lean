/- A region that draws its order, over a memory of things: operations that only read, or call what leaves the things so; and loud ones (a make, a store) that stand in one order. One walk in the order of the text serves every order. -/
import Derived.Test.YtacglcpjbepfnaaHeap
namespace Go.Proofs.Ytacglcpjbepfnaa
open Go.RowKit
set_option linter.unusedVariables false

section
variable {P : Program} {ops : Array Oper} {md : Region.Mode} {W : World} {G : List Thing → Prop}
/-- In whatever memory of such things the operation yields v, and leaves the things so. -/
def YieldsG (P : Program) (ops : Array Oper) (W : World) (G : List Thing → Prop) (o : Oper) (v : Value) (a : Act) : Prop := ∀ l, G l → ∀ (w : World) (H : Heap W l w), YieldsIn P ops (fun w' => ∃ d, w' = H.any d) o v a
theorem YieldsG.of_same {o : Oper} {v : Value} {a a' : Act} (hy : YieldsG P ops W G o v a) (he : execOp a'.eval o = execOp a.eval o)
    (hw : Region.wanted o (yielded ops a'.tmps) = Region.wanted o (yielded ops a.tmps)) : YieldsG P ops W G o v a' := fun l hl w H => (hy l hl w H).of_same he hw
/-- The operation makes other things of the things. -/
def LoudG (P : Program) (ops : Array Oper) (W : World) (o : Oper) (l : List Thing) (a : Act) (k : List Thing → Value → Prop) : Prop :=
  Region.wanted o (yielded ops a.tmps) = true ∧ ∀ w, Heap W l w → ∃ l' u w', ((execOp a.eval o).run P w = .ok (.value u) w' ∨ ((execOp a.eval o).run P w = .ok .skip w' ∧ u = undef)) ∧ Heap W l' w' ∧ k l' u
theorem LoudG.mono {o : Oper} {l : List Thing} {a : Act} {k k' : List Thing → Value → Prop} (h : LoudG P ops W o l a k) (hk : ∀ l' u, k l' u → k' l' u) : LoudG P ops W o l a k' :=
  ⟨h.1, fun w H => let ⟨l', u, w', h1, h2, h3⟩ := h.2 w H; ⟨l', u, w', h1, h2, hk _ _ h3⟩⟩
theorem LoudG.of_same {o : Oper} {l : List Thing} {a a' : Act} {k : List Thing → Value → Prop} (h : LoudG P ops W o l a k) (he : execOp a'.eval o = execOp a.eval o)
    (hw : Region.wanted o (yielded ops a'.tmps) = Region.wanted o (yielded ops a.tmps)) : LoudG P ops W o l a' k := ⟨by rw [hw]; exact h.1, fun w H => by rw [he]; exact h.2 w H⟩
def WholeG (P : Program) (md : Region.Mode) (ops : Array Oper) (W : World) (G : List Thing → Prop) (K : List Thing → Act → Prop) : Nat → List Thing → Array Bool → Act → Prop
  | 0, l, listed, a => Region.ready md ops listed = [] ∧ K l a
  | f + 1, l, listed, a => Region.ready md ops listed ≠ [] ∧ ∀ i ∈ Region.ready md ops listed, ∃ o, ops[i]? = some o ∧
      ((∃ v, YieldsG P ops W G o v a ∧ WholeG P md ops W G K f l (listed.setIfInBounds i true) (a.put o.dst v)) ∨
       LoudG P ops W o l a fun l' u => G l' ∧ WholeG P md ops W G K f l' (listed.setIfInBounds i true) (a.put o.dst u))
theorem WholeG.any {K : List Thing → Act → Prop} {Q : Exit → Act → World → Prop} (hK : ∀ l a w, Heap W l w → K l a → Q .normal a w) :
    ∀ (f : Nat) (l : List Thing) (listed : Array Bool) (a : Act) (w : World), G l → Heap W l w → WholeG P md ops W G K f l listed a → wpAny P md ops Q f listed a w := by
  intro f
  induction f with
  | zero => intro l listed a w _ H h; exact ⟨h.1, hK _ _ _ H h.2⟩
  | succ f ih =>
    intro l listed a w hG H h
    refine ⟨fun h0 => absurd h0 h.1, fun i hi => ?_⟩
    obtain ⟨o, ho, h⟩ := h.2 i hi
    rcases h with ⟨v, hy, h⟩ | h
    · refine wpOp_of_qOp (C := fun w' => ∃ d, w' = H.any d) (H.any_of H) (fun a' w' hw' ha' => ?_) ((hy l hG w H).qOp ho (K := fun a' => a' = a.put o.dst v) rfl)
      obtain ⟨d, rfl⟩ := hw'
      subst ha'
      exact ih _ _ _ _ hG (H.any_heap d) h
    · obtain ⟨l', u, w', hr, H', hG', hk⟩ := h.2 w H
      unfold wpOp
      simp only [ho]
      rw [if_pos h.1]
      refine .inl ?_
      unfold Oper.wp
      rcases hr with hr | ⟨hr, rfl⟩ <;> rw [hr] <;> exact ih _ _ _ _ hG' H' hk
theorem WholeG.first {i : Nat} {oi : Oper} {v : Value} {K : List Thing → Act → Prop} (hi : ops[i]? = some oi) (hsel : ∀ (j : Nat) (o : Oper) cs b, ops[j]? = some o → o.op ≠ .select cs b) :
    ∀ (f : Nat) (l : List Thing) (listed : Array Bool) (a : Act),
      (∀ j oj, ops[j]? = some oj → j ≠ i → listed.getD j true = false → (∀ e ∈ oj.after, Region.binds md e = true → e.on ≠ i) → oi.apart ops oj = true) →
      i ∈ Region.ready md ops listed → YieldsG P ops W G oi v a → WholeG P md ops W G K f l (listed.setIfInBounds i true) (a.put oi.dst v) → WholeG P md ops W G K (f + 1) l listed a := by
  intro f
  induction f with
  | zero =>
    intro l listed a _ hr hy H
    refine ⟨fun h => by rw [h] at hr; simp at hr, fun j hj => ?_⟩
    by_cases e : j = i
    · subst e; exact ⟨oi, hi, .inl ⟨v, hy, H⟩⟩
    · have := ready_mono hj e
      rw [H.1] at this; cases this
  | succ f ih =>
    intro l listed a hfree hr hy H
    have hun := (mem_ready.1 hr).1
    refine ⟨fun h => by rw [h] at hr; simp at hr, fun j hj => ?_⟩
    by_cases e : j = i
    · subst e; exact ⟨oi, hi, .inl ⟨v, hy, H⟩⟩
    · obtain ⟨hjun, oj, hoj, hall⟩ := mem_ready.1 hj
      have hnot : ∀ e ∈ oj.after, Region.binds md e = true → e.on ≠ i := fun e he hb heq => by
        have := hall e he hb
        rw [heq, getD_both hun] at this
        cases this
      obtain ⟨h1, h2, h3⟩ := Oper.apart_spec (hfree j oj hoj e hjun hnot)
      have hsi := fun cs b => hsel i oi cs b hi
      have hsj := fun cs b => hsel j oj cs b hoj
      have keep : ∀ u, YieldsG P ops W G oi v (a.put oj.dst u) := fun u => hy.of_same (execOp_put oi hsi a oj.dst u h3) (wanted_put oi a oj.dst u h3)
      have hfree' : ∀ k ok, ops[k]? = some ok → k ≠ i → (listed.setIfInBounds j true).getD k true = false →
          (∀ e ∈ ok.after, Region.binds md e = true → e.on ≠ i) → oi.apart ops ok = true := fun k ok hk hki hun hno => by
        refine hfree k ok hk hki ?_ hno
        by_cases hjk : j = k
        · subst hjk; exact hjun
        · rw [getD_set_ne true hjk] at hun; exact hun
      obtain ⟨o', ho', h⟩ := H.2 j (ready_mono hj e)
      obtain rfl : o' = oj := Option.some.inj (ho'.symm.trans hoj)
      refine ⟨o', hoj, ?_⟩
      rcases h with ⟨u, hu, h⟩ | h
      · refine .inl ⟨u, hu.of_same (execOp_put o' hsj a oi.dst v h1).symm (wanted_put o' a oi.dst v h1).symm, ih _ _ _ hfree' (ready_mono hr (Ne.symm e)) (keep _) ?_⟩
        rw [Array.setIfInBounds_comm _ _ e, ← Act.put_comm a v _ h2]
        exact h
      · refine .inr ((h.of_same (execOp_put o' hsj a oi.dst v h1).symm (wanted_put o' a oi.dst v h1).symm).mono fun l' u ⟨hg, h⟩ => ⟨hg, ih _ _ _ hfree' (ready_mono hr (Ne.symm e)) (keep _) ?_⟩)
        rw [Array.setIfInBounds_comm _ _ e, ← Act.put_comm a v _ h2]
        exact h
/-- Is the order of the text one that serves: each quiet operation may come first, each loud one must? -/
def Region.lexW (md : Region.Mode) (ops : Array Oper) (loud : List Nat) : Nat → Nat → Array Bool → Bool
  | 0, _, listed => (Region.ready md ops listed).isEmpty
  | f + 1, k, listed => (if loud.contains k then Region.ready md ops listed == [k] else (Region.ready md ops listed).contains k && Region.free md ops listed k) && Region.lexW md ops loud f (k + 1) (listed.setIfInBounds k true)
def Region.lexWB (ops : Array Oper) (loud : List Nat) : Bool := Region.noSelect ops && Region.lexW .any ops loud ops.size 0 (Array.replicate ops.size false)
/-- The walk in the order of the text. -/
def wpW (P : Program) (ops : Array Oper) (W : World) (G : List Thing → Prop) (loud : List Nat) (K : List Thing → Act → Prop) : List Oper → Nat → List Thing → Act → Prop
  | [], _, l, a => K l a
  | o :: rest, k, l, a => if loud.contains k then LoudG P ops W o l a fun l' u => G l' ∧ wpW P ops W G loud K rest (k + 1) l' (a.put o.dst u)
      else ∃ v, YieldsG P ops W G o v a ∧ wpW P ops W G loud K rest (k + 1) l (a.put o.dst v)
theorem WholeG.lex {loud : List Nat} {K : List Thing → Act → Prop} (hsel : Region.noSelect ops = true) :
    ∀ (rest : List Oper) (k : Nat) (l : List Thing) (listed : Array Bool) (a : Act), (∀ j, j < rest.length → rest[j]? = ops[k + j]?) → Region.lexW md ops loud rest.length k listed = true → wpW P ops W G loud K rest k l a → WholeG P md ops W G K rest.length l listed a := by
  intro rest
  induction rest with
  | nil => intro k l listed a _ hB h; exact ⟨by simpa [Region.lexW] using hB, h⟩
  | cons o rest ih =>
    intro k l listed a hl hB h
    have h0 : ops[k]? = some o := by simpa using (hl 0 (by simp)).symm
    have hl' : ∀ j, j < rest.length → rest[j]? = ops[k + 1 + j]? := fun j hj => by have := hl (j + 1) (by simp; omega); simpa [Nat.add_assoc, Nat.add_comm 1 j] using this
    rw [List.length_cons, Region.lexW] at hB
    simp only [Bool.and_eq_true] at hB
    obtain ⟨hB, hB'⟩ := hB
    unfold wpW at h
    by_cases hk : loud.contains k = true
    · rw [if_pos hk] at h hB
      have hr : Region.ready md ops listed = [k] := by simpa using hB
      refine ⟨by rw [hr]; simp, fun i hi => ?_⟩
      rw [hr] at hi
      obtain rfl : i = k := by simpa using hi
      exact ⟨o, h0, .inr (h.mono fun l' u ⟨hg, h⟩ => ⟨hg, ih _ _ _ _ hl' hB' h⟩)⟩
    · rw [if_neg hk] at h hB
      simp only [Bool.and_eq_true] at hB
      obtain ⟨v, hy, h⟩ := h
      exact WholeG.first h0 (Region.noSelect_spec hsel) rest.length l listed a (Region.free_spec h0 hB.2) (by simpa using hB.1) hy (ih _ _ _ _ hl' hB' h)
theorem wp_region_W {id : Nat} {Q : Exit → Act → World → Prop} {a : Act} {w : World} {l : List Thing} {lo : List Oper} (loud : List Nat) (G : List Thing → Prop) (H : Heap W l w) (hG : G l) (hm : P.follows .mixedOrders = true) (hB : Region.lexWB lo.toArray loud = true)
    (h : wpW P lo.toArray W G loud (fun l' a' => ∀ w', Heap W l' w' → Q .normal a' w') lo 0 l a) : (Code.region id lo.toArray true).wp P Q a w := by
  simp only [Region.lexWB, Bool.and_eq_true] at hB
  refine wp_region_any hm ?_
  have := WholeG.lex (md := .any) hB.1 lo 0 l (Array.replicate lo.toArray.size false) a (fun j hj => by simp) (by simpa using hB.2) h
  have h2 := WholeG.any (Q := Q) (fun l a w H h => h w H) lo.length l _ a _ hG H.drew this
  simpa using h2
/-- Is this order one that serves? -/
def Region.lexO (md : Region.Mode) (ops : Array Oper) (loud : List Nat) : List Nat → Array Bool → Bool
  | [], listed => (Region.ready md ops listed).isEmpty
  | k :: ks, listed => (if loud.contains k then Region.ready md ops listed == [k] else (Region.ready md ops listed).contains k && Region.free md ops listed k) && Region.lexO md ops loud ks (listed.setIfInBounds k true)
def Region.lexOB (ops : Array Oper) (loud ord : List Nat) : Bool := Region.noSelect ops && Region.lexO .any ops loud ord (Array.replicate ops.size false) && ord.length == ops.size
/-- The walk in an order of one's own. -/
def wpO (P : Program) (ops : Array Oper) (W : World) (G : List Thing → Prop) (loud : List Nat) (K : List Thing → Act → Prop) : List Nat → List Thing → Act → Prop
  | [], l, a => K l a
  | k :: ks, l, a => ∃ o, ops[k]? = some o ∧ if loud.contains k then LoudG P ops W o l a fun l' u => G l' ∧ wpO P ops W G loud K ks l' (a.put o.dst u)
      else ∃ v, YieldsG P ops W G o v a ∧ wpO P ops W G loud K ks l (a.put o.dst v)
theorem WholeG.lexO {loud : List Nat} {K : List Thing → Act → Prop} (hsel : Region.noSelect ops = true) :
    ∀ (ks : List Nat) (l : List Thing) (listed : Array Bool) (a : Act), Region.lexO md ops loud ks listed = true → wpO P ops W G loud K ks l a → WholeG P md ops W G K ks.length l listed a := by
  intro ks
  induction ks with
  | nil => intro l listed a hB h; exact ⟨by simpa [Region.lexO] using hB, h⟩
  | cons k ks ih =>
    intro l listed a hB h
    obtain ⟨o, h0, h⟩ := h
    rw [Region.lexO] at hB
    simp only [Bool.and_eq_true] at hB
    obtain ⟨hB, hB'⟩ := hB
    by_cases hk : loud.contains k = true
    · rw [if_pos hk] at h hB
      have hr : Region.ready md ops listed = [k] := by simpa using hB
      refine ⟨by rw [hr]; simp, fun i hi => ?_⟩
      rw [hr] at hi
      obtain rfl : i = k := by simpa using hi
      exact ⟨o, h0, .inr (h.mono fun l' u ⟨hg, h⟩ => ⟨hg, ih _ _ _ hB' h⟩)⟩
    · rw [if_neg hk] at h hB
      simp only [Bool.and_eq_true] at hB
      obtain ⟨v, hy, h⟩ := h
      exact WholeG.first h0 (Region.noSelect_spec hsel) ks.length l listed a (Region.free_spec h0 hB.2) (by simpa using hB.1) hy (ih _ _ _ hB' h)
theorem wp_region_O {id : Nat} {Q : Exit → Act → World → Prop} {a : Act} {w : World} {l : List Thing} {lo : List Oper} (loud ord : List Nat) (G : List Thing → Prop) (H : Heap W l w) (hG : G l) (hm : P.follows .mixedOrders = true) (hB : Region.lexOB lo.toArray loud ord = true)
    (h : wpO P lo.toArray W G loud (fun l' a' => ∀ w', Heap W l' w' → Q .normal a' w') ord l a) : (Code.region id lo.toArray true).wp P Q a w := by
  simp only [Region.lexOB, Bool.and_eq_true, beq_iff_eq] at hB
  refine wp_region_any hm ?_
  have := WholeG.lexO (md := .any) hB.1.1 ord l _ a hB.1.2 h
  have h2 := WholeG.any (Q := Q) (fun l a w H h => h w H) ord.length l _ a _ hG H.drew this
  rw [hB.2] at h2
  exact h2
theorem wpO_nil {loud : List Nat} {K : List Thing → Act → Prop} {l : List Thing} {a : Act} (h : K l a) : wpO P ops W G loud K [] l a := h
theorem wpO_step {lo : List Oper} {loud : List Nat} {K : List Thing → Act → Prop} {o : Oper} {k : Nat} {ks : List Nat} {l : List Thing} {a : Act} {s : Nat} {v : Value} (ho : lo[k]? = some o) (hk : loud.contains k = false) (hd : o.dst = some s) (hlt : s < a.tmps.size)
    (h1 : ∀ l0, G l0 → ∀ (w0 : World) (H0 : Heap W l0 w0), wpQuiet P lo.toArray (fun w' => ∃ d, w' = H0.any d) (fun a' => a'.tmps.getD s undef = v) [o] a) (h2 : wpO P lo.toArray W G loud K ks l (a.put o.dst v)) : wpO P lo.toArray W G loud K (k :: ks) l a := by
  have inj : ∀ u, (a.put o.dst u).tmps.getD s undef = v → u = v := fun u h => by
    rw [hd] at h
    simp [Act.put, hlt] at h
    exact h
  refine ⟨o, by simpa using ho, ?_⟩
  rw [if_neg (by rw [hk]; exact Bool.false_ne_true)]
  refine ⟨v, fun l0 hl0 w0 H0 => ?_, h2⟩
  have h := h1 l0 hl0 w0 H0
  unfold wpQuiet at h
  by_cases hw : Region.wanted o (yielded lo.toArray a.tmps) = true
  · rw [if_pos hw] at h
    obtain ⟨u, hu, hk⟩ := h
    obtain rfl := inj u hk
    exact .inl ⟨hw, hu⟩
  · rw [if_neg hw] at h
    exact .inr ⟨by simpa using hw, (inj undef h).symm⟩
theorem wpO_loud {lo : List Oper} {loud : List Nat} {K : List Thing → Act → Prop} {o : Oper} {k : Nat} {ks : List Nat} {l : List Thing} {a : Act} (ho : lo[k]? = some o) (hk : loud.contains k = true) (h : LoudG P lo.toArray W o l a fun l' u => G l' ∧ wpO P lo.toArray W G loud K ks l' (a.put o.dst u)) : wpO P lo.toArray W G loud K (k :: ks) l a := by
  refine ⟨o, by simpa using ho, ?_⟩
  rw [if_pos hk]
  exact h
theorem wpW_nil {loud : List Nat} {K : List Thing → Act → Prop} {k : Nat} {l : List Thing} {a : Act} (h : K l a) : wpW P ops W G loud K [] k l a := h
theorem wpW_step {loud : List Nat} {K : List Thing → Act → Prop} {o : Oper} {rest : List Oper} {k : Nat} {l : List Thing} {a : Act} {s : Nat} {v : Value} (hk : loud.contains k = false) (hd : o.dst = some s) (hlt : s < a.tmps.size)
    (h1 : ∀ l0, G l0 → ∀ (w0 : World) (H0 : Heap W l0 w0), wpQuiet P ops (fun w' => ∃ d, w' = H0.any d) (fun a' => a'.tmps.getD s undef = v) [o] a) (h2 : wpW P ops W G loud K rest (k + 1) l (a.put o.dst v)) : wpW P ops W G loud K (o :: rest) k l a := by
  have inj : ∀ u, (a.put o.dst u).tmps.getD s undef = v → u = v := fun u h => by
    rw [hd] at h
    simp [Act.put, hlt] at h
    exact h
  unfold wpW
  rw [if_neg (by rw [hk]; exact Bool.false_ne_true)]
  refine ⟨v, fun l0 hl0 w0 H0 => ?_, h2⟩
  have h := h1 l0 hl0 w0 H0
  unfold wpQuiet at h
  by_cases hw : Region.wanted o (yielded ops a.tmps) = true
  · rw [if_pos hw] at h
    obtain ⟨u, hu, hk⟩ := h
    obtain rfl := inj u hk
    exact .inl ⟨hw, hu⟩
  · rw [if_neg hw] at h
    exact .inr ⟨by simpa using hw, (inj undef h).symm⟩
theorem wpW_loud {loud : List Nat} {K : List Thing → Act → Prop} {o : Oper} {rest : List Oper} {k : Nat} {l : List Thing} {a : Act} (hk : loud.contains k = true) (h : LoudG P ops W o l a fun l' u => G l' ∧ wpW P ops W G loud K rest (k + 1) l' (a.put o.dst u)) : wpW P ops W G loud K (o :: rest) k l a := by
  unfold wpW
  rw [if_pos hk]
  exact h
end
section
variable {ops : Array Oper} {W : World} {G : List Thing → Prop} {loud : List Nat} {K : List Thing → Act → Prop} {rest : List Oper} {k : Nat} {l : List Thing} {a : Act} {T n : Nat} {z : Array Value}
theorem wpW_allocR {dst : Option Tmp} {ty : TypeId} {pos : String} {after : Array Edge} {guard : Option (Nat × Bool)} (RT : RowTy T n z) (hk : loud.contains k = true) (hw : Region.wanted ⟨dst, .alloc T, ty, pos, after, guard⟩ (yielded ops a.tmps) = true)
    (hG : ∀ p, G (Cel p z T :: l)) (h : ∀ p, wpW Try.prog ops W G loud K rest (k + 1) (Cel p z T :: l) (a.put dst (.pointer (some ⟨p, 0, none⟩)))) : wpW Try.prog ops W G loud K (⟨dst, .alloc T, ty, pos, after, guard⟩ :: rest) k l a := by
  refine wpW_loud hk ⟨hw, fun w H => ⟨Cel w.heap.size z T :: l, .pointer (some ⟨w.heap.size, 0, none⟩), w.alloc (.cells z T), .inl ?_, H.alloc _ _, hG _, h _⟩⟩
  have hz := RT.zero
  cases hi : Try.prog.info? T with
  | none => rw [hi] at hz; cases hz
  | some i =>
    rw [hi] at hz
    have hz' : i.zero = some (.agg z) := hz
    have r2 : (zeroValue T).run Try.prog w = .ok (.agg z) w := by simp [zeroValue, typeInfo, hi, hz', go_sem]
    unfold execOp
    simp only [Instr.alloc, Sem.run_bind, r2, Result.andThen_ok, newVar, newRow, Value.cells]
    rfl
theorem run_storeR (RT : RowTy T n z) {w : World} {b off : Nat} {c c0 : Array Value} {t : TypeId} (hc : Cells n c) (hb : w.heap[b]? = some (.cells c0 t (0, 0))) (hn : off + n ≤ c0.size) :
    (Instr.storeAt T (.pointer (some ⟨b, off, none⟩)) (.agg c)).run Try.prog w = .ok () (setBlk w b (splice c0 off c)) := by
  have ht : w.there b off c.size := fun j hj => ⟨by
    rw [cell_of_row w b (off + j) c0 t _ hb, Array.getElem?_eq_getElem (by have := hc.1; omega)]; rfl, frozen_of_row w b (off + j) c0 t hb⟩
  simp only [Instr.storeAt, Instr.sureAddr, Sem.run_bind, Sem.run_pure, Result.andThen_ok, run_storeVar_mid w b off T c ht (by rw [RT.size, hc.1]) hc.2]
  rw [setCells_blk b c.toList off w c0 t _ hb (by have := hc.1; simp; omega)]
  unfold splice
  simp
theorem wpW_storeR {dst : Option Tmp} {ty : TypeId} {pos : String} {after : Array Edge} {guard : Option (Nat × Bool)} {x y : Operand} {b off : Nat} {c2 : Array Value} (RT : RowTy T n z) (hk : loud.contains k = true) (hw : Region.wanted ⟨dst, .store T x y, ty, pos, after, guard⟩ (yielded ops a.tmps) = true) (hx : a.eval x = .pointer (some ⟨b, off, none⟩)) (hy : a.eval y = .agg c2) (hc : Cells n c2)
    {c c1 : Array Value} {t : TypeId} {l' : List Thing} (m : Cel b c t ∈ l) (hn : off + n ≤ c.size) (hs : splice c off c2 = c1) (r : Repl l (Cel b c t) (Cel b c1 t) l') (hG : G l')
    (h : wpW Try.prog ops W G loud K rest (k + 1) l' (a.put dst undef)) : wpW Try.prog ops W G loud K (⟨dst, .store T x y, ty, pos, after, guard⟩ :: rest) k l a := by
  subst hs
  refine wpW_loud hk ⟨hw, fun w H => ⟨l', undef, setBlk w b (splice c off c2), .inr ⟨?_, rfl⟩, H.set r, hG, h⟩⟩
  unfold execOp
  simp only [hx, hy, Sem.run_bind, run_storeR RT hc (H.blk m) hn, Result.andThen_ok]
  rfl
theorem run_storeC {T : TypeId} (CT : CellTy T) {w : World} {b off : Nat} {v : Value} {c0 : Array Value} {t : TypeId} (hc : v.cells = #[v] ∧ v.oneCell' = true) (hb : w.heap[b]? = some (.cells c0 t (0, 0))) (hn : off < c0.size) :
    (Instr.storeAt T (.pointer (some ⟨b, off, none⟩)) v).run Try.prog w = .ok () (setBlk w b (c0.setIfInBounds off v)) := by
  have hsz : (sizeOf T).run Try.prog w = .ok 1 w := by
    have := CT.size
    cases hi : Try.prog.info? T with
    | none => rw [hi] at this; cases this
    | some i => rw [hi] at this; simp at this; simp [sizeOf, typeInfo, hi, this, go_sem]
  have hcell : (w.cell? ⟨b, off, none⟩).isSome = true := by rw [cell_of_row w b off c0 t _ hb, Array.getElem?_eq_getElem hn]; rfl
  have hfr : w.frozen? ⟨b, off, none⟩ = false := frozen_of_row w b off c0 t hb
  have e : setBlk w b (c0.setIfInBounds off v) = w.setCell ⟨b, off, none⟩ v := by
    refine World.eq_of ?_ rfl rfl rfl rfl
    apply Array.ext_getElem?
    intro j
    by_cases e : j = b
    · subst e; rw [setBlk_same _ j _ c0 t _ hb, Joins.block_setCell (i := off) hb]
    · rw [setBlk_block _ _ _ _ e, Below.heap_setCell _ _ _ _ e]
  rw [e]
  obtain ⟨u, hu⟩ := Option.isSome_iff_exists.1 hcell
  simp only [Instr.storeAt, Instr.sureAddr, storeVar, Sem.run_bind, Sem.run_pure, Result.andThen_ok, hsz, hc.1]
  have hst : (store ⟨b, off, none⟩ v).run Try.prog w = .ok () (w.setCell ⟨b, off, none⟩ v) := by rw [run_store _ _ _ _ _ hc.2, hu]; simp [hfr]
  simp [storeCells, go_sem, hst]
theorem wpO_storeC {lo : List Oper} {ks : List Nat} {k : Nat} {T : TypeId} {dst : Option Tmp} {ty : TypeId} {pos : String} {after : Array Edge} {guard : Option (Nat × Bool)} {x y : Operand} {b off : Nat} {v : Value} (CT : CellTy T) (ho : lo[k]? = some ⟨dst, .store T x y, ty, pos, after, guard⟩) (hk : loud.contains k = true) (hw : Region.wanted ⟨dst, .store T x y, ty, pos, after, guard⟩ (yielded lo.toArray a.tmps) = true) (hx : a.eval x = .pointer (some ⟨b, off, none⟩)) (hy : a.eval y = v) (hc : v.cells = #[v] ∧ v.oneCell' = true)
    {c c1 : Array Value} {t : TypeId} {l' : List Thing} (m : Cel b c t ∈ l) (hn : off < c.size) (hs : c.setIfInBounds off v = c1) (r : Repl l (Cel b c t) (Cel b c1 t) l') (hG : G l')
    (h : wpO Try.prog lo.toArray W G loud K ks l' (a.put dst undef)) : wpO Try.prog lo.toArray W G loud K (k :: ks) l a := by
  subst hs
  refine wpO_loud ho hk ⟨hw, fun w H => ⟨l', undef, setBlk w b (c.setIfInBounds off v), .inr ⟨?_, rfl⟩, H.set r, hG, h⟩⟩
  unfold execOp
  simp only [hx, hy, Sem.run_bind, run_storeC CT hc (H.blk m) hn, Result.andThen_ok]
  rfl
theorem wpO_storeI {lo : List Oper} {ks : List Nat} {k : Nat} {T : TypeId} {dst : Option Tmp} {ty : TypeId} {pos : String} {after : Array Edge} {guard : Option (Nat × Bool)} {x y : Operand} {b off : Nat} {k0 : IntKind} {n0 : Int} (CT : CellTy T) (ho : lo[k]? = some ⟨dst, .store T x y, ty, pos, after, guard⟩) (hk : loud.contains k = true) (hw : Region.wanted ⟨dst, .store T x y, ty, pos, after, guard⟩ (yielded lo.toArray a.tmps) = true) (hx : a.eval x = .pointer (some ⟨b, off, none⟩)) (hy : a.eval y = .int k0 n0)
    {c c1 : Array Value} {t : TypeId} {l' : List Thing} (m : Cel b c t ∈ l) (hn : off < c.size) (hs : c.setIfInBounds off (.int k0 n0) = c1) (r : Repl l (Cel b c t) (Cel b c1 t) l') (hG : G l')
    (h : wpO Try.prog lo.toArray W G loud K ks l' (a.put dst undef)) : wpO Try.prog lo.toArray W G loud K (k :: ks) l a := wpO_storeC CT ho hk hw hx hy ⟨rfl, rfl⟩ m hn hs r hG h
theorem wpO_storeB {lo : List Oper} {ks : List Nat} {k : Nat} {T : TypeId} {dst : Option Tmp} {ty : TypeId} {pos : String} {after : Array Edge} {guard : Option (Nat × Bool)} {x y : Operand} {b off : Nat} {b0 : Bool} (CT : CellTy T) (ho : lo[k]? = some ⟨dst, .store T x y, ty, pos, after, guard⟩) (hk : loud.contains k = true) (hw : Region.wanted ⟨dst, .store T x y, ty, pos, after, guard⟩ (yielded lo.toArray a.tmps) = true) (hx : a.eval x = .pointer (some ⟨b, off, none⟩)) (hy : a.eval y = .bool b0)
    {c c1 : Array Value} {t : TypeId} {l' : List Thing} (m : Cel b c t ∈ l) (hn : off < c.size) (hs : c.setIfInBounds off (.bool b0) = c1) (r : Repl l (Cel b c t) (Cel b c1 t) l') (hG : G l')
    (h : wpO Try.prog lo.toArray W G loud K ks l' (a.put dst undef)) : wpO Try.prog lo.toArray W G loud K (k :: ks) l a := wpO_storeC CT ho hk hw hx hy ⟨rfl, rfl⟩ m hn hs r hG h
end
end Go.Proofs.Ytacglcpjbepfnaa
