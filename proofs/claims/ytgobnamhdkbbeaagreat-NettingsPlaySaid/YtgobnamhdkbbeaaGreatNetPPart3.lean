/- Part 3 of what ProofNettingsPlay stands on: HeapRegion, LedTy, HeapPair, Led1, Led2, Led3, Led4. -/
import Derived.Test.YtgobnamhdkbbeaaGreatNetPPart2
import Derived.Test.YtgobnamhdkbbeaaGreatRows
import Derived.Shelf.SlMaps.Clone
/- A region that draws its order, over a memory of things: operations that only read, or call what leaves the things so; and loud ones (a make, a store) that stand in one order. One walk in the order of the text serves every order. -/
namespace Go.Proofs.YtgobnamhdkbbeaaGreat
open Go.RowKit
set_option linter.unusedVariables false

section
variable {P : Program} {ops : Array Oper} {md : Region.Mode} {W : World} {G : List Thing → Prop}
/-- In whatever memory of such things the operation yields v, and leaves the things so. -/
def YieldsG (P : Program) (ops : Array Oper) (W : World) (G : List Thing → Prop) (o : Oper) (v : Value) (a : Act) : Prop := ∀ l, G l → ∀ (w : World) (H : Heap W l w), YieldsIn P ops (fun w' => ∃ d, w' = H.any d) o v a
theorem YieldsG.of_same {o : Oper} {v : Value} {a a' : Act} (hy : YieldsG P ops W G o v a) (he : execOp a'.eval o = execOp a.eval o)
    (hw : Region.wanted o (yielded ops a'.tmps) = Region.wanted o (yielded ops a.tmps)) : YieldsG P ops W G o v a' := fun l hl w H => (hy l hl w H).of_same he hw
/-- The operation makes other things of the things. -/
def LoudG (P : Program) (ops : Array Oper) (W : World) (o : Oper) (l : List Thing) (a : Act) (k : List Thing → Value → Prop) : Prop :=
  Region.wanted o (yielded ops a.tmps) = true ∧ ∀ w, Heap W l w → ∃ l' u w', ((execOp a.eval o).run P w = .ok (.value u) w' ∨ ((execOp a.eval o).run P w = .ok .skip w' ∧ u = undef)) ∧ Heap W l' w' ∧ k l' u
theorem LoudG.mono {o : Oper} {l : List Thing} {a : Act} {k k' : List Thing → Value → Prop} (h : LoudG P ops W o l a k) (hk : ∀ l' u, k l' u → k' l' u) : LoudG P ops W o l a k' :=
  ⟨h.1, fun w H => let ⟨l', u, w', h1, h2, h3⟩ := h.2 w H; ⟨l', u, w', h1, h2, hk _ _ h3⟩⟩
theorem LoudG.of_same {o : Oper} {l : List Thing} {a a' : Act} {k : List Thing → Value → Prop} (h : LoudG P ops W o l a k) (he : execOp a'.eval o = execOp a.eval o)
    (hw : Region.wanted o (yielded ops a'.tmps) = Region.wanted o (yielded ops a.tmps)) : LoudG P ops W o l a' k := ⟨by rw [hw]; exact h.1, fun w H => by rw [he]; exact h.2 w H⟩
def WholeG (P : Program) (md : Region.Mode) (ops : Array Oper) (W : World) (G : List Thing → Prop) (K : List Thing → Act → Prop) : Nat → List Thing → Array Bool → Act → Prop
  | 0, l, listed, a => Region.ready md ops listed = [] ∧ K l a
  | f + 1, l, listed, a => Region.ready md ops listed ≠ [] ∧ ∀ i ∈ Region.ready md ops listed, ∃ o, ops[i]? = some o ∧
      ((∃ v, YieldsG P ops W G o v a ∧ WholeG P md ops W G K f l (listed.setIfInBounds i true) (a.put o.dst v)) ∨
       LoudG P ops W o l a fun l' u => G l' ∧ WholeG P md ops W G K f l' (listed.setIfInBounds i true) (a.put o.dst u))
theorem WholeG.any {K : List Thing → Act → Prop} {Q : Exit → Act → World → Prop} (hK : ∀ l a w, Heap W l w → K l a → Q .normal a w) :
    ∀ (f : Nat) (l : List Thing) (listed : Array Bool) (a : Act) (w : World), G l → Heap W l w → WholeG P md ops W G K f l listed a → wpAny P md ops Q f listed a w := by
  intro f
  induction f with
  | zero => intro l listed a w _ H h; exact ⟨h.1, hK _ _ _ H h.2⟩
  | succ f ih =>
    intro l listed a w hG H h
    refine ⟨fun h0 => absurd h0 h.1, fun i hi => ?_⟩
    obtain ⟨o, ho, h⟩ := h.2 i hi
    rcases h with ⟨v, hy, h⟩ | h
    · refine wpOp_of_qOp (C := fun w' => ∃ d, w' = H.any d) (H.any_of H) (fun a' w' hw' ha' => ?_) ((hy l hG w H).qOp ho (K := fun a' => a' = a.put o.dst v) rfl)
      obtain ⟨d, rfl⟩ := hw'
      subst ha'
      exact ih _ _ _ _ hG (H.any_heap d) h
    · obtain ⟨l', u, w', hr, H', hG', hk⟩ := h.2 w H
      unfold wpOp
      simp only [ho]
      rw [if_pos h.1]
      refine .inl ?_
      unfold Oper.wp
      rcases hr with hr | ⟨hr, rfl⟩ <;> rw [hr] <;> exact ih _ _ _ _ hG' H' hk
theorem WholeG.first {i : Nat} {oi : Oper} {v : Value} {K : List Thing → Act → Prop} (hi : ops[i]? = some oi) (hsel : ∀ (j : Nat) (o : Oper) cs b, ops[j]? = some o → o.op ≠ .select cs b) :
    ∀ (f : Nat) (l : List Thing) (listed : Array Bool) (a : Act),
      (∀ j oj, ops[j]? = some oj → j ≠ i → listed.getD j true = false → (∀ e ∈ oj.after, Region.binds md e = true → e.on ≠ i) → oi.apart ops oj = true) →
      i ∈ Region.ready md ops listed → YieldsG P ops W G oi v a → WholeG P md ops W G K f l (listed.setIfInBounds i true) (a.put oi.dst v) → WholeG P md ops W G K (f + 1) l listed a := by
  intro f
  induction f with
  | zero =>
    intro l listed a _ hr hy H
    refine ⟨fun h => by rw [h] at hr; simp at hr, fun j hj => ?_⟩
    by_cases e : j = i
    · subst e; exact ⟨oi, hi, .inl ⟨v, hy, H⟩⟩
    · have := ready_mono hj e
      rw [H.1] at this; cases this
  | succ f ih =>
    intro l listed a hfree hr hy H
    have hun := (mem_ready.1 hr).1
    refine ⟨fun h => by rw [h] at hr; simp at hr, fun j hj => ?_⟩
    by_cases e : j = i
    · subst e; exact ⟨oi, hi, .inl ⟨v, hy, H⟩⟩
    · obtain ⟨hjun, oj, hoj, hall⟩ := mem_ready.1 hj
      have hnot : ∀ e ∈ oj.after, Region.binds md e = true → e.on ≠ i := fun e he hb heq => by
        have := hall e he hb
        rw [heq, getD_both hun] at this
        cases this
      obtain ⟨h1, h2, h3⟩ := Oper.apart_spec (hfree j oj hoj e hjun hnot)
      have hsi := fun cs b => hsel i oi cs b hi
      have hsj := fun cs b => hsel j oj cs b hoj
      have keep : ∀ u, YieldsG P ops W G oi v (a.put oj.dst u) := fun u => hy.of_same (execOp_put oi hsi a oj.dst u h3) (wanted_put oi a oj.dst u h3)
      have hfree' : ∀ k ok, ops[k]? = some ok → k ≠ i → (listed.setIfInBounds j true).getD k true = false →
          (∀ e ∈ ok.after, Region.binds md e = true → e.on ≠ i) → oi.apart ops ok = true := fun k ok hk hki hun hno => by
        refine hfree k ok hk hki ?_ hno
        by_cases hjk : j = k
        · subst hjk; exact hjun
        · rw [getD_set_ne true hjk] at hun; exact hun
      obtain ⟨o', ho', h⟩ := H.2 j (ready_mono hj e)
      obtain rfl : o' = oj := Option.some.inj (ho'.symm.trans hoj)
      refine ⟨o', hoj, ?_⟩
      rcases h with ⟨u, hu, h⟩ | h
      · refine .inl ⟨u, hu.of_same (execOp_put o' hsj a oi.dst v h1).symm (wanted_put o' a oi.dst v h1).symm, ih _ _ _ hfree' (ready_mono hr (Ne.symm e)) (keep _) ?_⟩
        rw [Array.setIfInBounds_comm _ _ e, ← Act.put_comm a v _ h2]
        exact h
      · refine .inr ((h.of_same (execOp_put o' hsj a oi.dst v h1).symm (wanted_put o' a oi.dst v h1).symm).mono fun l' u ⟨hg, h⟩ => ⟨hg, ih _ _ _ hfree' (ready_mono hr (Ne.symm e)) (keep _) ?_⟩)
        rw [Array.setIfInBounds_comm _ _ e, ← Act.put_comm a v _ h2]
        exact h
/-- Is the order of the text one that serves: each quiet operation may come first, each loud one must? -/
def Region.lexW (md : Region.Mode) (ops : Array Oper) (loud : List Nat) : Nat → Nat → Array Bool → Bool
  | 0, _, listed => (Region.ready md ops listed).isEmpty
  | f + 1, k, listed => (if loud.contains k then Region.ready md ops listed == [k] else (Region.ready md ops listed).contains k && Region.free md ops listed k) && Region.lexW md ops loud f (k + 1) (listed.setIfInBounds k true)
def Region.lexWB (ops : Array Oper) (loud : List Nat) : Bool := Region.noSelect ops && Region.lexW .any ops loud ops.size 0 (Array.replicate ops.size false)
/-- The walk in the order of the text. -/
def wpW (P : Program) (ops : Array Oper) (W : World) (G : List Thing → Prop) (loud : List Nat) (K : List Thing → Act → Prop) : List Oper → Nat → List Thing → Act → Prop
  | [], _, l, a => K l a
  | o :: rest, k, l, a => if loud.contains k then LoudG P ops W o l a fun l' u => G l' ∧ wpW P ops W G loud K rest (k + 1) l' (a.put o.dst u)
      else ∃ v, YieldsG P ops W G o v a ∧ wpW P ops W G loud K rest (k + 1) l (a.put o.dst v)
theorem WholeG.lex {loud : List Nat} {K : List Thing → Act → Prop} (hsel : Region.noSelect ops = true) :
    ∀ (rest : List Oper) (k : Nat) (l : List Thing) (listed : Array Bool) (a : Act), (∀ j, j < rest.length → rest[j]? = ops[k + j]?) → Region.lexW md ops loud rest.length k listed = true → wpW P ops W G loud K rest k l a → WholeG P md ops W G K rest.length l listed a := by
  intro rest
  induction rest with
  | nil => intro k l listed a _ hB h; exact ⟨by simpa [Region.lexW] using hB, h⟩
  | cons o rest ih =>
    intro k l listed a hl hB h
    have h0 : ops[k]? = some o := by simpa using (hl 0 (by simp)).symm
    have hl' : ∀ j, j < rest.length → rest[j]? = ops[k + 1 + j]? := fun j hj => by have := hl (j + 1) (by simp; omega); simpa [Nat.add_assoc, Nat.add_comm 1 j] using this
    rw [List.length_cons, Region.lexW] at hB
    simp only [Bool.and_eq_true] at hB
    obtain ⟨hB, hB'⟩ := hB
    unfold wpW at h
    by_cases hk : loud.contains k = true
    · rw [if_pos hk] at h hB
      have hr : Region.ready md ops listed = [k] := by simpa using hB
      refine ⟨by rw [hr]; simp, fun i hi => ?_⟩
      rw [hr] at hi
      obtain rfl : i = k := by simpa using hi
      exact ⟨o, h0, .inr (h.mono fun l' u ⟨hg, h⟩ => ⟨hg, ih _ _ _ _ hl' hB' h⟩)⟩
    · rw [if_neg hk] at h hB
      simp only [Bool.and_eq_true] at hB
      obtain ⟨v, hy, h⟩ := h
      exact WholeG.first h0 (Region.noSelect_spec hsel) rest.length l listed a (Region.free_spec h0 hB.2) (by simpa using hB.1) hy (ih _ _ _ _ hl' hB' h)
theorem wp_region_W {id : Nat} {Q : Exit → Act → World → Prop} {a : Act} {w : World} {l : List Thing} {lo : List Oper} (loud : List Nat) (G : List Thing → Prop) (H : Heap W l w) (hG : G l) (hm : P.follows .mixedOrders = true) (hB : Region.lexWB lo.toArray loud = true)
    (h : wpW P lo.toArray W G loud (fun l' a' => ∀ w', Heap W l' w' → Q .normal a' w') lo 0 l a) : (Code.region id lo.toArray true).wp P Q a w := by
  simp only [Region.lexWB, Bool.and_eq_true] at hB
  refine wp_region_any hm ?_
  have := WholeG.lex (md := .any) hB.1 lo 0 l (Array.replicate lo.toArray.size false) a (fun j hj => by simp) (by simpa using hB.2) h
  have h2 := WholeG.any (Q := Q) (fun l a w H h => h w H) lo.length l _ a _ hG H.drew this
  simpa using h2
/-- Is this order one that serves? -/
def Region.lexO (md : Region.Mode) (ops : Array Oper) (loud : List Nat) : List Nat → Array Bool → Bool
  | [], listed => (Region.ready md ops listed).isEmpty
  | k :: ks, listed => (if loud.contains k then Region.ready md ops listed == [k] else (Region.ready md ops listed).contains k && Region.free md ops listed k) && Region.lexO md ops loud ks (listed.setIfInBounds k true)
def Region.lexOB (ops : Array Oper) (loud ord : List Nat) : Bool := Region.noSelect ops && Region.lexO .any ops loud ord (Array.replicate ops.size false) && ord.length == ops.size
/-- The walk in an order of one's own. -/
def wpO (P : Program) (ops : Array Oper) (W : World) (G : List Thing → Prop) (loud : List Nat) (K : List Thing → Act → Prop) : List Nat → List Thing → Act → Prop
  | [], l, a => K l a
  | k :: ks, l, a => ∃ o, ops[k]? = some o ∧ if loud.contains k then LoudG P ops W o l a fun l' u => G l' ∧ wpO P ops W G loud K ks l' (a.put o.dst u)
      else ∃ v, YieldsG P ops W G o v a ∧ wpO P ops W G loud K ks l (a.put o.dst v)
theorem WholeG.lexO {loud : List Nat} {K : List Thing → Act → Prop} (hsel : Region.noSelect ops = true) :
    ∀ (ks : List Nat) (l : List Thing) (listed : Array Bool) (a : Act), Region.lexO md ops loud ks listed = true → wpO P ops W G loud K ks l a → WholeG P md ops W G K ks.length l listed a := by
  intro ks
  induction ks with
  | nil => intro l listed a hB h; exact ⟨by simpa [Region.lexO] using hB, h⟩
  | cons k ks ih =>
    intro l listed a hB h
    obtain ⟨o, h0, h⟩ := h
    rw [Region.lexO] at hB
    simp only [Bool.and_eq_true] at hB
    obtain ⟨hB, hB'⟩ := hB
    by_cases hk : loud.contains k = true
    · rw [if_pos hk] at h hB
      have hr : Region.ready md ops listed = [k] := by simpa using hB
      refine ⟨by rw [hr]; simp, fun i hi => ?_⟩
      rw [hr] at hi
      obtain rfl : i = k := by simpa using hi
      exact ⟨o, h0, .inr (h.mono fun l' u ⟨hg, h⟩ => ⟨hg, ih _ _ _ hB' h⟩)⟩
    · rw [if_neg hk] at h hB
      simp only [Bool.and_eq_true] at hB
      obtain ⟨v, hy, h⟩ := h
      exact WholeG.first h0 (Region.noSelect_spec hsel) ks.length l listed a (Region.free_spec h0 hB.2) (by simpa using hB.1) hy (ih _ _ _ hB' h)
theorem wp_region_O {id : Nat} {Q : Exit → Act → World → Prop} {a : Act} {w : World} {l : List Thing} {lo : List Oper} (loud ord : List Nat) (G : List Thing → Prop) (H : Heap W l w) (hG : G l) (hm : P.follows .mixedOrders = true) (hB : Region.lexOB lo.toArray loud ord = true)
    (h : wpO P lo.toArray W G loud (fun l' a' => ∀ w', Heap W l' w' → Q .normal a' w') ord l a) : (Code.region id lo.toArray true).wp P Q a w := by
  simp only [Region.lexOB, Bool.and_eq_true, beq_iff_eq] at hB
  refine wp_region_any hm ?_
  have := WholeG.lexO (md := .any) hB.1.1 ord l _ a hB.1.2 h
  have h2 := WholeG.any (Q := Q) (fun l a w H h => h w H) ord.length l _ a _ hG H.drew this
  rw [hB.2] at h2
  exact h2
theorem wpO_nil {loud : List Nat} {K : List Thing → Act → Prop} {l : List Thing} {a : Act} (h : K l a) : wpO P ops W G loud K [] l a := h
theorem wpO_step {lo : List Oper} {loud : List Nat} {K : List Thing → Act → Prop} {o : Oper} {k : Nat} {ks : List Nat} {l : List Thing} {a : Act} {s : Nat} {v : Value} (ho : lo[k]? = some o) (hk : loud.contains k = false) (hd : o.dst = some s) (hlt : s < a.tmps.size)
    (h1 : ∀ l0, G l0 → ∀ (w0 : World) (H0 : Heap W l0 w0), wpQuiet P lo.toArray (fun w' => ∃ d, w' = H0.any d) (fun a' => a'.tmps.getD s undef = v) [o] a) (h2 : wpO P lo.toArray W G loud K ks l (a.put o.dst v)) : wpO P lo.toArray W G loud K (k :: ks) l a := by
  have inj : ∀ u, (a.put o.dst u).tmps.getD s undef = v → u = v := fun u h => by
    rw [hd] at h
    simp [Act.put, hlt] at h
    exact h
  refine ⟨o, by simpa using ho, ?_⟩
  rw [if_neg (by rw [hk]; exact Bool.false_ne_true)]
  refine ⟨v, fun l0 hl0 w0 H0 => ?_, h2⟩
  have h := h1 l0 hl0 w0 H0
  unfold wpQuiet at h
  by_cases hw : Region.wanted o (yielded lo.toArray a.tmps) = true
  · rw [if_pos hw] at h
    obtain ⟨u, hu, hk⟩ := h
    obtain rfl := inj u hk
    exact .inl ⟨hw, hu⟩
  · rw [if_neg hw] at h
    exact .inr ⟨by simpa using hw, (inj undef h).symm⟩
theorem wpO_loud {lo : List Oper} {loud : List Nat} {K : List Thing → Act → Prop} {o : Oper} {k : Nat} {ks : List Nat} {l : List Thing} {a : Act} (ho : lo[k]? = some o) (hk : loud.contains k = true) (h : LoudG P lo.toArray W o l a fun l' u => G l' ∧ wpO P lo.toArray W G loud K ks l' (a.put o.dst u)) : wpO P lo.toArray W G loud K (k :: ks) l a := by
  refine ⟨o, by simpa using ho, ?_⟩
  rw [if_pos hk]
  exact h
theorem wpW_nil {loud : List Nat} {K : List Thing → Act → Prop} {k : Nat} {l : List Thing} {a : Act} (h : K l a) : wpW P ops W G loud K [] k l a := h
theorem wpW_step {loud : List Nat} {K : List Thing → Act → Prop} {o : Oper} {rest : List Oper} {k : Nat} {l : List Thing} {a : Act} {s : Nat} {v : Value} (hk : loud.contains k = false) (hd : o.dst = some s) (hlt : s < a.tmps.size)
    (h1 : ∀ l0, G l0 → ∀ (w0 : World) (H0 : Heap W l0 w0), wpQuiet P ops (fun w' => ∃ d, w' = H0.any d) (fun a' => a'.tmps.getD s undef = v) [o] a) (h2 : wpW P ops W G loud K rest (k + 1) l (a.put o.dst v)) : wpW P ops W G loud K (o :: rest) k l a := by
  have inj : ∀ u, (a.put o.dst u).tmps.getD s undef = v → u = v := fun u h => by
    rw [hd] at h
    simp [Act.put, hlt] at h
    exact h
  unfold wpW
  rw [if_neg (by rw [hk]; exact Bool.false_ne_true)]
  refine ⟨v, fun l0 hl0 w0 H0 => ?_, h2⟩
  have h := h1 l0 hl0 w0 H0
  unfold wpQuiet at h
  by_cases hw : Region.wanted o (yielded ops a.tmps) = true
  · rw [if_pos hw] at h
    obtain ⟨u, hu, hk⟩ := h
    obtain rfl := inj u hk
    exact .inl ⟨hw, hu⟩
  · rw [if_neg hw] at h
    exact .inr ⟨by simpa using hw, (inj undef h).symm⟩
theorem wpW_loud {loud : List Nat} {K : List Thing → Act → Prop} {o : Oper} {rest : List Oper} {k : Nat} {l : List Thing} {a : Act} (hk : loud.contains k = true) (h : LoudG P ops W o l a fun l' u => G l' ∧ wpW P ops W G loud K rest (k + 1) l' (a.put o.dst u)) : wpW P ops W G loud K (o :: rest) k l a := by
  unfold wpW
  rw [if_pos hk]
  exact h
end
section
variable {ops : Array Oper} {W : World} {G : List Thing → Prop} {loud : List Nat} {K : List Thing → Act → Prop} {rest : List Oper} {k : Nat} {l : List Thing} {a : Act} {T n : Nat} {z : Array Value}
theorem run_storeR (RT : RowTy T n z) {w : World} {b off : Nat} {c c0 : Array Value} {t : TypeId} (hc : Cells n c) (hb : w.heap[b]? = some (.cells c0 t (0, 0))) (hn : off + n ≤ c0.size) :
    (Instr.storeAt T (.pointer (some ⟨b, off, none⟩)) (.agg c)).run Tryz.prog w = .ok () (setBlk w b (splice c0 off c)) := by
  have ht : w.there b off c.size := fun j hj => ⟨by
    rw [cell_of_row w b (off + j) c0 t _ hb, Array.getElem?_eq_getElem (by have := hc.1; omega)]; rfl, frozen_of_row w b (off + j) c0 t hb⟩
  simp only [Instr.storeAt, Instr.sureAddr, Sem.run_bind, Sem.run_pure, Result.andThen_ok, run_storeVar_mid w b off T c ht (by rw [RT.size, hc.1]) hc.2]
  rw [setCells_blk b c.toList off w c0 t _ hb (by have := hc.1; simp; omega)]
  unfold splice
  simp
theorem wpW_storeR {dst : Option Tmp} {ty : TypeId} {pos : String} {after : Array Edge} {guard : Option (Nat × Bool)} {x y : Operand} {b off : Nat} {c2 : Array Value} (RT : RowTy T n z) (hk : loud.contains k = true) (hw : Region.wanted ⟨dst, .store T x y, ty, pos, after, guard⟩ (yielded ops a.tmps) = true) (hx : a.eval x = .pointer (some ⟨b, off, none⟩)) (hy : a.eval y = .agg c2) (hc : Cells n c2)
    {c c1 : Array Value} {t : TypeId} {l' : List Thing} (m : Cel b c t ∈ l) (hn : off + n ≤ c.size) (hs : splice c off c2 = c1) (r : Repl l (Cel b c t) (Cel b c1 t) l') (hG : G l')
    (h : wpW Tryz.prog ops W G loud K rest (k + 1) l' (a.put dst undef)) : wpW Tryz.prog ops W G loud K (⟨dst, .store T x y, ty, pos, after, guard⟩ :: rest) k l a := by
  subst hs
  refine wpW_loud hk ⟨hw, fun w H => ⟨l', undef, setBlk w b (splice c off c2), .inr ⟨?_, rfl⟩, H.set r, hG, h⟩⟩
  unfold execOp
  simp only [hx, hy, Sem.run_bind, run_storeR RT hc (H.blk m) hn, Result.andThen_ok]
  rfl
theorem run_storeC {T : TypeId} (CT : CellTy T) {w : World} {b off : Nat} {v : Value} {c0 : Array Value} {t : TypeId} (hc : v.cells = #[v] ∧ v.oneCell' = true) (hb : w.heap[b]? = some (.cells c0 t (0, 0))) (hn : off < c0.size) :
    (Instr.storeAt T (.pointer (some ⟨b, off, none⟩)) v).run Tryz.prog w = .ok () (setBlk w b (c0.setIfInBounds off v)) := by
  have hsz : (sizeOf T).run Tryz.prog w = .ok 1 w := by
    have := CT.size
    cases hi : Tryz.prog.info? T with
    | none => rw [hi] at this; cases this
    | some i => rw [hi] at this; simp at this; simp [sizeOf, typeInfo, hi, this, go_sem]
  have hcell : (w.cell? ⟨b, off, none⟩).isSome = true := by rw [cell_of_row w b off c0 t _ hb, Array.getElem?_eq_getElem hn]; rfl
  have hfr : w.frozen? ⟨b, off, none⟩ = false := frozen_of_row w b off c0 t hb
  have e : setBlk w b (c0.setIfInBounds off v) = w.setCell ⟨b, off, none⟩ v := by
    refine World.eq_of ?_ rfl rfl rfl rfl
    apply Array.ext_getElem?
    intro j
    by_cases e : j = b
    · subst e; rw [setBlk_same _ j _ c0 t _ hb, Joins.block_setCell (i := off) hb]
    · rw [setBlk_block _ _ _ _ e, Below.heap_setCell _ _ _ _ e]
  rw [e]
  obtain ⟨u, hu⟩ := Option.isSome_iff_exists.1 hcell
  simp only [Instr.storeAt, Instr.sureAddr, storeVar, Sem.run_bind, Sem.run_pure, Result.andThen_ok, hsz, hc.1]
  have hst : (store ⟨b, off, none⟩ v).run Tryz.prog w = .ok () (w.setCell ⟨b, off, none⟩ v) := by rw [run_store _ _ _ _ _ hc.2, hu]; simp [hfr]
  simp [storeCells, go_sem, hst]
theorem wpO_storeC {lo : List Oper} {ks : List Nat} {k : Nat} {T : TypeId} {dst : Option Tmp} {ty : TypeId} {pos : String} {after : Array Edge} {guard : Option (Nat × Bool)} {x y : Operand} {b off : Nat} {v : Value} (CT : CellTy T) (ho : lo[k]? = some ⟨dst, .store T x y, ty, pos, after, guard⟩) (hk : loud.contains k = true) (hw : Region.wanted ⟨dst, .store T x y, ty, pos, after, guard⟩ (yielded lo.toArray a.tmps) = true) (hx : a.eval x = .pointer (some ⟨b, off, none⟩)) (hy : a.eval y = v) (hc : v.cells = #[v] ∧ v.oneCell' = true)
    {c c1 : Array Value} {t : TypeId} {l' : List Thing} (m : Cel b c t ∈ l) (hn : off < c.size) (hs : c.setIfInBounds off v = c1) (r : Repl l (Cel b c t) (Cel b c1 t) l') (hG : G l')
    (h : wpO Tryz.prog lo.toArray W G loud K ks l' (a.put dst undef)) : wpO Tryz.prog lo.toArray W G loud K (k :: ks) l a := by
  subst hs
  refine wpO_loud ho hk ⟨hw, fun w H => ⟨l', undef, setBlk w b (c.setIfInBounds off v), .inr ⟨?_, rfl⟩, H.set r, hG, h⟩⟩
  unfold execOp
  simp only [hx, hy, Sem.run_bind, run_storeC CT hc (H.blk m) hn, Result.andThen_ok]
  rfl
theorem wpO_storeI {lo : List Oper} {ks : List Nat} {k : Nat} {T : TypeId} {dst : Option Tmp} {ty : TypeId} {pos : String} {after : Array Edge} {guard : Option (Nat × Bool)} {x y : Operand} {b off : Nat} {k0 : IntKind} {n0 : Int} (CT : CellTy T) (ho : lo[k]? = some ⟨dst, .store T x y, ty, pos, after, guard⟩) (hk : loud.contains k = true) (hw : Region.wanted ⟨dst, .store T x y, ty, pos, after, guard⟩ (yielded lo.toArray a.tmps) = true) (hx : a.eval x = .pointer (some ⟨b, off, none⟩)) (hy : a.eval y = .int k0 n0)
    {c c1 : Array Value} {t : TypeId} {l' : List Thing} (m : Cel b c t ∈ l) (hn : off < c.size) (hs : c.setIfInBounds off (.int k0 n0) = c1) (r : Repl l (Cel b c t) (Cel b c1 t) l') (hG : G l')
    (h : wpO Tryz.prog lo.toArray W G loud K ks l' (a.put dst undef)) : wpO Tryz.prog lo.toArray W G loud K (k :: ks) l a := wpO_storeC CT ho hk hw hx hy ⟨rfl, rfl⟩ m hn hs r hG h
end
end Go.Proofs.YtgobnamhdkbbeaaGreat

/- A ledger in memory: its cells, and its map. -/
namespace Go.Proofs.YtgobnamhdkbbeaaGreat
open Go.RowKit
set_option linter.unusedSimpArgs false
set_option linter.unusedVariables false
set_option maxRecDepth 100000
theorem cell_cur : CellTy 31 := ⟨⟨_, Tryz.underlying31, rfl⟩, by kernel_rfl⟩
theorem cell_map : CellTy 54 := ⟨⟨_, Tryz.underlying54, rfl⟩, by kernel_rfl⟩
/-! The key's type. -/
theorem ends_law : WideMaps.KeyLaw Tryz.prog 90 := deep_law_laid (by kernel_rfl) (m := 2) (by omega) (of_decide_eq_true (by kernel_rfl)) (by kernel_rfl) (by kernel_rfl)
def KL (v : Value) : Prop := ∃ l, keyOf Tryz.prog 90 v = some l
theorem key_ty : KeyTy 90 KL := KeyTy.of ends_law
theorem wf_u8 {a : Int} (h : 0 ≤ a ∧ a ≤ 255) : (Lit.int .u8 a).wf = true := by
  simp [Lit.wf, IntKind.min, IntKind.max, IntKind.bits, IntKind.signed]; omega
theorem key_ok {a b c : Int} (ha : 0 ≤ a ∧ a ≤ 255) (hb : 0 ≤ b ∧ b ≤ 255) (hc : 0 ≤ c ∧ c ≤ 255) : KL (keyL a b c) := by
  have h1 : Tryz.prog.keyType 90 = true := by kernel_rfl
  have h2 : Tryz.prog.cellsOf 90 = 3 := by kernel_rfl
  have h3 : Tryz.prog.cellsOf 30 = 1 := by kernel_rfl
  have h4 : Tryz.prog.cellsOf 31 = 1 := by kernel_rfl
  obtain ⟨m, hm⟩ : ∃ m, Tryz.prog.types.size + 1 = m + 2 := by
    have : 1 ≤ Tryz.prog.types.size := of_decide_eq_true (by kernel_rfl)
    exact ⟨Tryz.prog.types.size - 1, by omega⟩
  unfold KL keyOf keyL ends
  rw [hm]
  simp [Tryz.underlying90, h1, Value.cells, Value.formed, h2, Program.keyLits, Tryz.underlying30, Tryz.underlying31, h3, h4, wf_u8 ha, wf_u8 hb, wf_u8 hc]
theorem map_ty : MapTy 54 90 92 KL (valL 0 0) := ⟨Tryz.underlying54, key_ty, fun w => by kernel_rfl⟩
/-! The cells. -/
/-- Is it among these? -/
def hasP (P : List Int) (a : Int) : Bool := decide (a ∈ P)
def ledA (P : List Int) (m : Option Nat) : Array Value := tab 18 fun i => if i < 17 then .bool (hasP P (i : Int)) else .map m
def parA (P : List Int) : Array Value := tab 17 fun i => .bool (hasP P (i : Int))
theorem ledA_sz (P : List Int) (m : Option Nat) : (ledA P m).size = 18 := tab_size _ _
theorem ledA_get (P : List Int) (m : Option Nat) {a : Nat} (h : a < 17) : (ledA P m)[a]? = some (.bool (hasP P (a : Int))) := by
  unfold ledA
  rw [tab_get _ (by omega), if_pos h]
theorem ledA_getb (P : List Int) (m : Option Nat) {a : Nat} {b : Bool} (h : a < 17) (e : hasP P (a : Int) = b) : (ledA P m)[a]? = some (.bool b) := e ▸ ledA_get P m h
theorem ledA_map (P : List Int) (m : Option Nat) : (ledA P m)[17]? = some (.map m) := by
  unfold ledA
  rw [tab_get _ (by omega), if_neg (by omega)]
theorem ledA_set (P : List Int) (m : Option Nat) {a : Nat} (h : a < 17) : (ledA P m).setIfInBounds a (.bool true) = ledA (insP P a) m := by
  unfold ledA
  rw [tab_set _ _ (by omega)]
  apply tab_congr
  intro i hi
  by_cases e : i = a
  · subst e
    rw [if_pos rfl, if_pos h]
    simp [hasP, insP_mem]
  · rw [if_neg e]
    split
    · unfold hasP
      congr 1
      have : ((i : Int) ∈ insP P a) ↔ ((i : Int) ∈ P) := by
        rw [insP_mem]
        constructor
        · rintro (h | h)
          · exact h
          · omega
        · exact .inl
      simp [this]
    · rfl
theorem ledA_par (P : List Int) (m : Option Nat) : (ledA P m).extract 0 (0 + 17) = parA P := by
  unfold ledA parA
  rw [tab_ext _ (by omega)]
  apply tab_congr
  intro i hi
  rw [Nat.zero_add, if_pos hi]
theorem parA_get (P : List Int) {a : Nat} (h : a < 17) : (parA P)[a]? = some (.bool (hasP P (a : Int))) := tab_get _ h
theorem row_par : RowTy 55 17 (parA []) := ⟨⟨_, Tryz.underlying55, rfl⟩, by kernel_rfl, by kernel_rfl⟩
theorem row_ends : RowTy 90 3 (ends 0 0 0) := ⟨⟨_, Tryz.underlying90, rfl⟩, by kernel_rfl, by kernel_rfl⟩
theorem row_owe : RowTy 92 2 (owe 0 0) := ⟨⟨_, Tryz.underlying92, rfl⟩, by kernel_rfl, by kernel_rfl⟩
theorem ends_all (a b c : Int) : (ends a b c).extract 0 (0 + 3) = ends a b c := by simp
theorem owe_all (a b : Int) : (owe a b).extract 0 (0 + 2) = owe a b := by simp
theorem ends_cells (a b c : Int) : Cells 3 (ends a b c) := ⟨rfl, by simp [Value.oneCell']⟩
theorem owe_cells (a b : Int) : Cells 2 (owe a b) := ⟨rfl, by simp [Value.oneCell']⟩
theorem ends_splice (a b c x y z : Int) : splice (ends a b c) 0 (ends x y z) = ends x y z := splice_all rfl
theorem owe_splice (a b x y : Int) : splice (owe a b) 0 (owe x y) = owe x y := splice_all rfl
/-- A map held against nil. -/
theorem run_neq_map_nil {P : Program} (w : World) (t k e : TypeId) (p : Option Nat) (h : P.underlying t = some (.map k e)) : (binOp .neq t (.map p) (.map none)).run P w = .ok (.bool p.isSome) w := by
  have h2 := run_equalIn_map_nil_sl (P := P) w 9999 t k e p h
  simp only [binOp]
  simp [show Op.equal t (.map p) (.map none) = Op.equalIn (9999 + 1) t (.map p) (.map none) from rfl, h2]
theorem run_neq_mapL (p : Option Nat) (w : World) : (binOp .neq 54 (.map p) (.map none)).run Tryz.prog w = .ok (.bool p.isSome) w := run_neq_map_nil w _ _ _ p Tryz.underlying54
abbrev LdC (p : Nat) (P : List Int) (m : Option Nat) : Thing := Cel p (ledA P m) 57
abbrev LdM (q : Nat) (L : List Lin) : Thing := MapT KL q (prs L)
end Go.Proofs.YtgobnamhdkbbeaaGreat

/- A region that draws its order, where two allocs may come in either order. -/
namespace Go.Proofs.YtgobnamhdkbbeaaGreat
open Go.RowKit
set_option linter.unusedVariables false
section
variable {P : Program} {ops : Array Oper} {md : Region.Mode} {W : World} {G : List Thing → Prop}
/-- Is this order one that serves? (i, some j: i and j come in either order.) -/
def Region.lexM (md : Region.Mode) (ops : Array Oper) (loud : List Nat) : List (Nat × Option Nat) → Array Bool → Bool
  | [], listed => (Region.ready md ops listed).isEmpty
  | (k, none) :: ks, listed => (if loud.contains k then Region.ready md ops listed == [k] else (Region.ready md ops listed).contains k && Region.free md ops listed k) && Region.lexM md ops loud ks (listed.setIfInBounds k true)
  | (i, some j) :: ks, listed => (Region.ready md ops listed == [i, j]) && (Region.ready md ops (listed.setIfInBounds i true) == [j]) && (Region.ready md ops (listed.setIfInBounds j true) == [i]) && i != j && Region.lexM md ops loud ks ((listed.setIfInBounds i true).setIfInBounds j true)
def lenM : List (Nat × Option Nat) → Nat
  | [] => 0
  | (_, none) :: ks => lenM ks + 1
  | (_, some _) :: ks => lenM ks + 2
def Region.lexMB (ops : Array Oper) (loud : List Nat) (ord : List (Nat × Option Nat)) : Bool := Region.noSelect ops && Region.lexM .any ops loud ord (Array.replicate ops.size false) && lenM ord == ops.size
def wpM (P : Program) (ops : Array Oper) (W : World) (G : List Thing → Prop) (loud : List Nat) (K : List Thing → Act → Prop) : List (Nat × Option Nat) → List Thing → Act → Prop
  | [], l, a => K l a
  | (k, none) :: ks, l, a => ∃ o, ops[k]? = some o ∧ if loud.contains k then LoudG P ops W o l a fun l' u => G l' ∧ wpM P ops W G loud K ks l' (a.put o.dst u)
      else ∃ v, YieldsG P ops W G o v a ∧ wpM P ops W G loud K ks l (a.put o.dst v)
  | (i, some j) :: ks, l, a => ∃ oi oj, ops[i]? = some oi ∧ ops[j]? = some oj ∧
      (LoudG P ops W oi l a fun l1 u => G l1 ∧ LoudG P ops W oj l1 (a.put oi.dst u) fun l2 u2 => G l2 ∧ wpM P ops W G loud K ks l2 ((a.put oi.dst u).put oj.dst u2)) ∧
      (LoudG P ops W oj l a fun l1 u => G l1 ∧ LoudG P ops W oi l1 (a.put oj.dst u) fun l2 u2 => G l2 ∧ wpM P ops W G loud K ks l2 ((a.put oj.dst u).put oi.dst u2))
theorem WholeG.lexM {loud : List Nat} {K : List Thing → Act → Prop} (hsel : Region.noSelect ops = true) :
    ∀ (ks : List (Nat × Option Nat)) (l : List Thing) (listed : Array Bool) (a : Act), Region.lexM md ops loud ks listed = true → wpM P ops W G loud K ks l a → WholeG P md ops W G K (lenM ks) l listed a := by
  intro ks
  induction ks with
  | nil => intro l listed a hB h; exact ⟨by simpa [Region.lexM] using hB, h⟩
  | cons k ks ih =>
    intro l listed a hB h
    obtain ⟨i, j⟩ := k
    cases j with
    | none =>
      obtain ⟨o, h0, h⟩ := h
      rw [Region.lexM] at hB
      simp only [Bool.and_eq_true] at hB
      obtain ⟨hB, hB'⟩ := hB
      by_cases hk : loud.contains i = true
      · rw [if_pos hk] at h hB
        have hr : Region.ready md ops listed = [i] := by simpa using hB
        refine ⟨by rw [hr]; simp, fun i' hi => ?_⟩
        rw [hr] at hi
        obtain rfl : i' = i := by simpa using hi
        exact ⟨o, h0, .inr (h.mono fun l' u ⟨hg, h⟩ => ⟨hg, ih _ _ _ hB' h⟩)⟩
      · rw [if_neg hk] at h hB
        simp only [Bool.and_eq_true] at hB
        obtain ⟨v, hy, h⟩ := h
        exact WholeG.first h0 (Region.noSelect_spec hsel) (lenM ks) l listed a (Region.free_spec h0 hB.2) (by simpa using hB.1) hy (ih _ _ _ hB' h)
    | some j =>
      obtain ⟨oi, oj, hi0, hj0, h1, h2⟩ := h
      rw [Region.lexM] at hB
      simp only [Bool.and_eq_true, beq_iff_eq, bne_iff_ne, ne_eq] at hB
      obtain ⟨⟨⟨⟨r0, r1⟩, r2⟩, hne⟩, hB'⟩ := hB
      refine ⟨by rw [r0]; simp, fun k hk => ?_⟩
      rw [r0] at hk
      simp only [List.mem_cons, List.not_mem_nil, or_false] at hk
      rcases hk with rfl | rfl
      · refine ⟨oi, hi0, .inr (h1.mono fun l1 u ⟨hg, h⟩ => ⟨hg, ?_⟩)⟩
        refine ⟨by rw [r1]; simp, fun k2 hk2 => ?_⟩
        rw [r1] at hk2
        obtain rfl : k2 = j := by simpa using hk2
        exact ⟨oj, hj0, .inr (h.mono fun l2 u2 ⟨hg, h⟩ => ⟨hg, ih _ _ _ hB' h⟩)⟩
      · refine ⟨oj, hj0, .inr (h2.mono fun l1 u ⟨hg, h⟩ => ⟨hg, ?_⟩)⟩
        refine ⟨by rw [r2]; simp, fun k2 hk2 => ?_⟩
        rw [r2] at hk2
        obtain rfl : k2 = i := by simpa using hk2
        refine ⟨oi, hi0, .inr (h.mono fun l2 u2 ⟨hg, h⟩ => ⟨hg, ?_⟩)⟩
        rw [Array.setIfInBounds_comm _ _ (fun e => hne e.symm)]
        exact ih _ _ _ hB' h
theorem wp_region_M {id : Nat} {Q : Exit → Act → World → Prop} {a : Act} {w : World} {l : List Thing} {lo : List Oper} (loud : List Nat) (ord : List (Nat × Option Nat)) (G : List Thing → Prop) (H : Heap W l w) (hG : G l) (hm : P.follows .mixedOrders = true) (hB : Region.lexMB lo.toArray loud ord = true)
    (h : wpM P lo.toArray W G loud (fun l' a' => ∀ w', Heap W l' w' → Q .normal a' w') ord l a) : (Code.region id lo.toArray true).wp P Q a w := by
  simp only [Region.lexMB, Bool.and_eq_true, beq_iff_eq] at hB
  refine wp_region_any hm ?_
  have := WholeG.lexM (md := .any) hB.1.1 ord l _ a hB.1.2 h
  have h2 := WholeG.any (Q := Q) (fun l a w H h => h w H) (lenM ord) l _ a _ hG H.drew this
  rw [hB.2] at h2
  exact h2
theorem wpM_nil {loud : List Nat} {K : List Thing → Act → Prop} {l : List Thing} {a : Act} (h : K l a) : wpM P ops W G loud K [] l a := h
/-- Quiet ones at the front: as in wpO. -/
theorem wpM_step {loud : List Nat} {lo : List Oper} {K : List Thing → Act → Prop} {o : Oper} {k : Nat} {ks : List (Nat × Option Nat)} {l : List Thing} {a : Act} {s : Nat} {v : Value} (ho : lo[k]? = some o) (hk : loud.contains k = false) (hd : o.dst = some s) (hlt : s < a.tmps.size)
    (h1 : ∀ l0, G l0 → ∀ (w0 : World) (H0 : Heap W l0 w0), wpQuiet P lo.toArray (fun w' => ∃ d, w' = H0.any d) (fun a' => a'.tmps.getD s undef = v) [o] a) (h2 : wpM P lo.toArray W G loud K ks l (a.put o.dst v)) : wpM P lo.toArray W G loud K ((k, none) :: ks) l a := by
  refine ⟨o, by simpa using ho, ?_⟩
  rw [if_neg (by rw [hk]; exact Bool.false_ne_true)]
  refine ⟨v, fun l0 hl0 w0 H0 => ?_, h2⟩
  have h := h1 l0 hl0 w0 H0
  have inj : ∀ u, (a.put o.dst u).tmps.getD s undef = v → u = v := fun u hu => by
    rw [hd] at hu
    simpa [Act.put, hlt] using hu
  unfold wpQuiet at h
  by_cases hw : Region.wanted o (yielded lo.toArray a.tmps) = true
  · rw [if_pos hw] at h
    obtain ⟨u, hu, hk⟩ := h
    obtain rfl := inj u hk
    exact .inl ⟨hw, hu⟩
  · rw [if_neg hw] at h
    exact .inr ⟨by simpa using hw, (inj undef h).symm⟩
theorem wpM_loud {loud : List Nat} {lo : List Oper} {K : List Thing → Act → Prop} {o : Oper} {k : Nat} {ks : List (Nat × Option Nat)} {l : List Thing} {a : Act} (ho : lo[k]? = some o) (hk : loud.contains k = true) (h : LoudG P lo.toArray W o l a fun l' u => G l' ∧ wpM P lo.toArray W G loud K ks l' (a.put o.dst u)) : wpM P lo.toArray W G loud K ((k, none) :: ks) l a := by
  refine ⟨o, by simpa using ho, ?_⟩
  rw [if_pos hk]
  exact h
end
section
variable {W : World} {G : List Thing → Prop} {loud : List Nat} {K : List Thing → Act → Prop} {lo : List Oper} {ks : List (Nat × Option Nat)} {k : Nat} {l : List Thing} {a : Act} {T n : Nat} {z : Array Value}
theorem loud_alloc {ops : Array Oper} {dst : Option Tmp} {ty : TypeId} {pos : String} {after : Array Edge} {guard : Option (Nat × Bool)} (RT : RowTy T n z) (hw : Region.wanted ⟨dst, .alloc T, ty, pos, after, guard⟩ (yielded ops a.tmps) = true) {k : List Thing → Value → Prop}
    (h : ∀ p, k (Cel p z T :: l) (.pointer (some ⟨p, 0, none⟩))) : LoudG Tryz.prog ops W ⟨dst, .alloc T, ty, pos, after, guard⟩ l a k := by
  refine ⟨hw, fun w H => ⟨Cel w.heap.size z T :: l, .pointer (some ⟨w.heap.size, 0, none⟩), w.alloc (.cells z T), .inl ?_, H.alloc _ _, h _⟩⟩
  have hz := RT.zero
  cases hi : Tryz.prog.info? T with
  | none => rw [hi] at hz; cases hz
  | some i =>
    rw [hi] at hz
    have hz' : i.zero = some (.agg z) := hz
    have r2 : (zeroValue T).run Tryz.prog w = .ok (.agg z) w := by simp [zeroValue, typeInfo, hi, hz', go_sem]
    unfold execOp
    simp only [Instr.alloc, Sem.run_bind, r2, Result.andThen_ok, newVar, newRow, Value.cells]
    rfl
theorem LoudG.perm {ops : Array Oper} {o : Oper} {k k' : List Thing → Value → Prop} (h : LoudG Tryz.prog ops W o l a k) (hk : ∀ l' u, k l' u → ∃ l2, l'.Perm l2 ∧ k' l2 u) : LoudG Tryz.prog ops W o l a k' :=
  ⟨h.1, fun w H => by
    obtain ⟨l', u, w', hr, H', hk1⟩ := h.2 w H
    obtain ⟨l2, hp, hk2⟩ := hk _ _ hk1
    exact ⟨l2, u, w', hr, H'.perm hp, hk2⟩⟩
theorem wpM_allocR {dst : Option Tmp} {ty : TypeId} {pos : String} {after : Array Edge} {guard : Option (Nat × Bool)} (RT : RowTy T n z) (ho : lo[k]? = some ⟨dst, .alloc T, ty, pos, after, guard⟩) (hk : loud.contains k = true) (hw : Region.wanted ⟨dst, .alloc T, ty, pos, after, guard⟩ (yielded lo.toArray a.tmps) = true)
    (hG : ∀ p, G (Cel p z T :: l)) (h : ∀ p, wpM Tryz.prog lo.toArray W G loud K ks (Cel p z T :: l) (a.put dst (.pointer (some ⟨p, 0, none⟩)))) : wpM Tryz.prog lo.toArray W G loud K ((k, none) :: ks) l a :=
  wpM_loud ho hk (loud_alloc RT hw fun p => ⟨hG p, h p⟩)
/-- Two allocs, in either order. -/
theorem wpM_alloc2 {T2 n2 : Nat} {z2 : Array Value} {k2 : Nat} {d1 d2 : Nat} {ty ty2 : TypeId} {pos pos2 : String} {after after2 : Array Edge} {guard guard2 : Option (Nat × Bool)} (RT : RowTy T n z) (RT2 : RowTy T2 n2 z2) (ho : lo[k]? = some ⟨some d1, .alloc T, ty, pos, after, guard⟩) (ho2 : lo[k2]? = some ⟨some d2, .alloc T2, ty2, pos2, after2, guard2⟩)
    (hg : guard = none) (hg2 : guard2 = none) (hd : d1 ≠ d2)
    (hG1 : ∀ p, G (Cel p z T :: l)) (hG2 : ∀ p, G (Cel p z2 T2 :: l)) (hG : ∀ p q, G (Cel q z2 T2 :: Cel p z T :: l))
    (h : ∀ p q, wpM Tryz.prog lo.toArray W G loud K ks (Cel q z2 T2 :: Cel p z T :: l) ((a.put (some d1) (.pointer (some ⟨p, 0, none⟩))).put (some d2) (.pointer (some ⟨q, 0, none⟩)))) : wpM Tryz.prog lo.toArray W G loud K ((k, some k2) :: ks) l a := by
  subst hg hg2
  refine ⟨_, _, by simpa using ho, by simpa using ho2, ?_, ?_⟩
  · exact loud_alloc RT rfl fun p => ⟨hG1 p, loud_alloc RT2 rfl fun q => ⟨hG p q, h p q⟩⟩
  · refine loud_alloc RT2 rfl fun q => ⟨hG2 q, ?_⟩
    refine LoudG.perm (k := fun l' u => ∃ p, l' = Cel p z T :: Cel q z2 T2 :: l ∧ u = .pointer (some ⟨p, 0, none⟩)) (loud_alloc RT rfl fun p => ⟨p, rfl, rfl⟩) ?_
    rintro _ _ ⟨p, rfl, rfl⟩
    refine ⟨_, .swap _ _ _, hG p q, ?_⟩
    have e := Act.put_comm a (x := some d2) (y := some d1) (.pointer (some ⟨q, 0, none⟩)) (.pointer (some ⟨p, 0, none⟩)) (fun d e1 e2 => hd (by cases e1; cases e2; rfl))
    rw [e]
    exact h p q
theorem wpM_storeR {dst : Option Tmp} {ty : TypeId} {pos : String} {after : Array Edge} {guard : Option (Nat × Bool)} {x y : Operand} {b off : Nat} {c2 : Array Value} (RT : RowTy T n z) (ho : lo[k]? = some ⟨dst, .store T x y, ty, pos, after, guard⟩) (hk : loud.contains k = true) (hw : Region.wanted ⟨dst, .store T x y, ty, pos, after, guard⟩ (yielded lo.toArray a.tmps) = true) (hx : a.eval x = .pointer (some ⟨b, off, none⟩)) (hy : a.eval y = .agg c2) (hc : Cells n c2)
    {c c1 : Array Value} {t : TypeId} {l' : List Thing} (m : Cel b c t ∈ l) (hn : off + n ≤ c.size) (hs : splice c off c2 = c1) (r : Repl l (Cel b c t) (Cel b c1 t) l') (hG : G l')
    (h : wpM Tryz.prog lo.toArray W G loud K ks l' (a.put dst undef)) : wpM Tryz.prog lo.toArray W G loud K ((k, none) :: ks) l a := by
  subst hs
  refine wpM_loud ho hk ⟨hw, fun w H => ⟨l', undef, setBlk w b (splice c off c2), .inr ⟨?_, rfl⟩, H.set r, hG, h⟩⟩
  unfold execOp
  simp only [hx, hy, Sem.run_bind, run_storeR RT hc (H.blk m) hn, Result.andThen_ok]
  rfl
end
end Go.Proofs.YtgobnamhdkbbeaaGreat

/- ledgers.Ledger: there, may, New, Open, Has. -/
namespace Go.Proofs.YtgobnamhdkbbeaaGreat
open Go.RowKit
set_option linter.unusedSimpArgs false
set_option linter.unusedVariables false
section
variable {W w : World} {l : List Thing} {p q : Nat} {m : Option Nat} {P : List Int} {S : Lgr} {R : Ending → World → Prop}
set_option maxRecDepth 100000
set_option maxHeartbeats 1000000
theorem lmay_ans (a : Nat) (h : a ≤ 255) : Ans 45 #[.int .u8 (a : Int)] (.bool (decide (1 ≤ a ∧ a ≤ 16))) := by
  intro w
  by_cases h1 : 1 ≤ a
  · by_cases h2 : a ≤ 16
    all_goals
      go_enter Tryz.func45, Tryz.ntmps45
      go_wp2_with fail
      go_ret
      exact ⟨by simp [h1, h2]; omega, (by repeat (first | exact Ext.refl _ | refine Ext.alloc ?_ _ | refine Ext.ext ?_ _ | refine Ext.drew ?_))⟩
  · go_enter Tryz.func45, Tryz.ntmps45
    go_wp2_with fail
    go_ret
    exact ⟨by simp [h1], (by repeat (first | exact Ext.refl _ | refine Ext.alloc ?_ _ | refine Ext.ext ?_ _ | refine Ext.drew ?_))⟩
theorem lthere_H (h : LdC p P m ∈ l) : AnsH W l 44 #[.pointer (some ⟨p, 0, none⟩)] (.bool m.isSome) := by
  intro w H
  have hm := run_neq_mapL m
  generalize m.isSome = b at *
  go_enter Tryz.func44, Tryz.ntmps44
  go_wp2_with (first | go_skip | ((with_reducible show wpList _ _ _ (_ :: _) _ _); (with_reducible apply wpl_loadCH); (· exact cell_map); (· rfl); (· rfl); (· exact H); (· exact h); (· exact ledA_map _ _); (simp only [Act.put, List.setIfInBounds_toArray, List.set_cons_zero, List.set_cons_succ])))
  go_ret
  exact ⟨rfl, H⟩
/-- The ends' numbers as they may be. -/
theorem endsMay_ans (cr db cu : Nat) (h1 : cr ≤ 255) (h2 : db ≤ 255) (h3 : cu ≤ 255) : Ans 46 #[.agg (ends (cr : Int) (db : Int) (cu : Int))] (.bool (!decide (badEnds (cr : Int) (db : Int) (cu : Int)))) := by
  intro w
  have H := Heap.start w
  have m1 := lmay_ans cr h1
  have m2 := lmay_ans db h2
  by_cases c1 : 1 ≤ cr ∧ cr ≤ 16
  · rw [decide_eq_true c1] at m1
    by_cases c2 : 1 ≤ db ∧ db ≤ 16
    · rw [decide_eq_true c2] at m2
      by_cases c3 : cr = db
      · subst c3
        have HR := Lib.hid (show decide (badEnds (cr : Int) (cr : Int) (cu : Int)) = true from decide_eq_true (by unfold badEnds; omega))
        go_enter Tryz.func46, Tryz.ntmps46
        go_wp2_with (first | go_skip | ((with_reducible show wpList _ _ _ (_ :: _) _ _); (with_reducible apply wpl_boxRH); (· rfl); (· rfl); (· exact H); (clear H; intro px _ H); (simp only [Act.put, List.setIfInBounds_toArray, List.set_cons_zero, List.set_cons_succ])) | ((with_reducible show wpList _ _ _ (_ :: _) _ _); (with_reducible apply wpl_loadCH); (· first | exact cell_party | exact cell_cur); (· rfl); (· rfl); (· exact H); (· (repeat (first | (with_reducible exact List.mem_cons_self) | with_reducible apply List.mem_cons_of_mem))); (· (with_reducible first | exact ends_g0 .. | exact ends_g1 .. | exact ends_g2 ..)); (simp only [Act.put, List.setIfInBounds_toArray, List.set_cons_zero, List.set_cons_succ])) | ((with_reducible refine Ans.callH (by assumption) H ?_); clear H; intro _ H))
        go_ret
        exact ⟨by rw [HR.out]; rfl, H.low⟩
      · have e1 : ((cr : Int) == (db : Int)) = false := by simp; omega
        have e2 : ((cr : Int) != (db : Int)) = true := by simp; omega
        by_cases c4 : 1 ≤ cu
        · by_cases c5 : cu ≤ 8
          · have e5 : decide ((cu : Int) ≤ 8) = true := decide_eq_true (by omega)
            have HR := Lib.hid (show decide (badEnds (cr : Int) (db : Int) (cu : Int)) = false from decide_eq_false (by unfold badEnds; omega))
            go_enter Tryz.func46, Tryz.ntmps46
            go_wp2_with (first | go_skip | ((with_reducible show wpList _ _ _ (_ :: _) _ _); (with_reducible apply wpl_boxRH); (· rfl); (· rfl); (· exact H); (clear H; intro px _ H); (simp only [Act.put, List.setIfInBounds_toArray, List.set_cons_zero, List.set_cons_succ])) | ((with_reducible show wpList _ _ _ (_ :: _) _ _); (with_reducible apply wpl_loadCH); (· first | exact cell_party | exact cell_cur); (· rfl); (· rfl); (· exact H); (· (repeat (first | (with_reducible exact List.mem_cons_self) | with_reducible apply List.mem_cons_of_mem))); (· (with_reducible first | exact ends_g0 .. | exact ends_g1 .. | exact ends_g2 ..)); (simp only [Act.put, List.setIfInBounds_toArray, List.set_cons_zero, List.set_cons_succ])) | ((with_reducible refine Ans.callH (by assumption) H ?_); clear H; intro _ H))
            go_ret
            exact ⟨by rw [HR.out]; rfl, H.low⟩
          · have e5 : decide ((cu : Int) ≤ 8) = false := decide_eq_false (by omega)
            have HR := Lib.hid (show decide (badEnds (cr : Int) (db : Int) (cu : Int)) = true from decide_eq_true (by unfold badEnds; omega))
            go_enter Tryz.func46, Tryz.ntmps46
            go_wp2_with (first | go_skip | ((with_reducible show wpList _ _ _ (_ :: _) _ _); (with_reducible apply wpl_boxRH); (· rfl); (· rfl); (· exact H); (clear H; intro px _ H); (simp only [Act.put, List.setIfInBounds_toArray, List.set_cons_zero, List.set_cons_succ])) | ((with_reducible show wpList _ _ _ (_ :: _) _ _); (with_reducible apply wpl_loadCH); (· first | exact cell_party | exact cell_cur); (· rfl); (· rfl); (· exact H); (· (repeat (first | (with_reducible exact List.mem_cons_self) | with_reducible apply List.mem_cons_of_mem))); (· (with_reducible first | exact ends_g0 .. | exact ends_g1 .. | exact ends_g2 ..)); (simp only [Act.put, List.setIfInBounds_toArray, List.set_cons_zero, List.set_cons_succ])) | ((with_reducible refine Ans.callH (by assumption) H ?_); clear H; intro _ H))
            go_ret
            exact ⟨by rw [HR.out]; rfl, H.low⟩
        · have HR := Lib.hid (show decide (badEnds (cr : Int) (db : Int) (cu : Int)) = true from decide_eq_true (by unfold badEnds; omega))
          go_enter Tryz.func46, Tryz.ntmps46
          go_wp2_with (first | go_skip | ((with_reducible show wpList _ _ _ (_ :: _) _ _); (with_reducible apply wpl_boxRH); (· rfl); (· rfl); (· exact H); (clear H; intro px _ H); (simp only [Act.put, List.setIfInBounds_toArray, List.set_cons_zero, List.set_cons_succ])) | ((with_reducible show wpList _ _ _ (_ :: _) _ _); (with_reducible apply wpl_loadCH); (· first | exact cell_party | exact cell_cur); (· rfl); (· rfl); (· exact H); (· (repeat (first | (with_reducible exact List.mem_cons_self) | with_reducible apply List.mem_cons_of_mem))); (· (with_reducible first | exact ends_g0 .. | exact ends_g1 .. | exact ends_g2 ..)); (simp only [Act.put, List.setIfInBounds_toArray, List.set_cons_zero, List.set_cons_succ])) | ((with_reducible refine Ans.callH (by assumption) H ?_); clear H; intro _ H))
          go_ret
          exact ⟨by rw [HR.out]; rfl, H.low⟩
    · rw [decide_eq_false c2] at m2
      have HR := Lib.hid (show decide (badEnds (cr : Int) (db : Int) (cu : Int)) = true from decide_eq_true (by unfold badEnds; omega))
      go_enter Tryz.func46, Tryz.ntmps46
      go_wp2_with (first | go_skip | ((with_reducible show wpList _ _ _ (_ :: _) _ _); (with_reducible apply wpl_boxRH); (· rfl); (· rfl); (· exact H); (clear H; intro px _ H); (simp only [Act.put, List.setIfInBounds_toArray, List.set_cons_zero, List.set_cons_succ])) | ((with_reducible show wpList _ _ _ (_ :: _) _ _); (with_reducible apply wpl_loadCH); (· first | exact cell_party | exact cell_cur); (· rfl); (· rfl); (· exact H); (· (repeat (first | (with_reducible exact List.mem_cons_self) | with_reducible apply List.mem_cons_of_mem))); (· (with_reducible first | exact ends_g0 .. | exact ends_g1 .. | exact ends_g2 ..)); (simp only [Act.put, List.setIfInBounds_toArray, List.set_cons_zero, List.set_cons_succ])) | ((with_reducible refine Ans.callH (by assumption) H ?_); clear H; intro _ H))
      go_ret
      exact ⟨by rw [HR.out]; rfl, H.low⟩
  · rw [decide_eq_false c1] at m1
    have HR := Lib.hid (show decide (badEnds (cr : Int) (db : Int) (cu : Int)) = true from decide_eq_true (by unfold badEnds; omega))
    go_enter Tryz.func46, Tryz.ntmps46
    go_wp2_with (first | go_skip | ((with_reducible show wpList _ _ _ (_ :: _) _ _); (with_reducible apply wpl_boxRH); (· rfl); (· rfl); (· exact H); (clear H; intro px _ H); (simp only [Act.put, List.setIfInBounds_toArray, List.set_cons_zero, List.set_cons_succ])) | ((with_reducible show wpList _ _ _ (_ :: _) _ _); (with_reducible apply wpl_loadCH); (· first | exact cell_party | exact cell_cur); (· rfl); (· rfl); (· exact H); (· (repeat (first | (with_reducible exact List.mem_cons_self) | with_reducible apply List.mem_cons_of_mem))); (· (with_reducible first | exact ends_g0 .. | exact ends_g1 .. | exact ends_g2 ..)); (simp only [Act.put, List.setIfInBounds_toArray, List.set_cons_zero, List.set_cons_succ])) | ((with_reducible refine Ans.callH (by assumption) H ?_); clear H; intro _ H))
    go_ret
    exact ⟨by rw [HR.out]; rfl, H.low⟩
end
end Go.Proofs.YtgobnamhdkbbeaaGreat

/- ledgers.Ledger: New, Open, Has, Room, Line. -/
namespace Go.Proofs.YtgobnamhdkbbeaaGreat
open Go.RowKit
set_option linter.unusedSimpArgs false
set_option linter.unusedVariables false
abbrev line (cr db cu lim deb : Int) : Array Value := #[.int .u8 cr, .int .u8 db, .int .u8 cu, .int .i64 lim, .int .i64 deb]
theorem row_line : RowTy 65 5 (line 0 0 0 0 0) := ⟨⟨_, Tryz.underlying65, rfl⟩, by kernel_rfl, by kernel_rfl⟩
theorem line_all (a b c d e : Int) : (line a b c d e).extract 0 (0 + 5) = line a b c d e := by simp
theorem line_cells (a b c d e : Int) : Cells 5 (line a b c d e) := ⟨rfl, by simp [Value.oneCell']⟩
theorem line_splice (a b c d e x y z u v : Int) : splice (line a b c d e) 0 (line x y z u v) = line x y z u v := splice_all rfl
theorem line_g0 (a b c d e : Int) : (line a b c d e)[0]? = some (.int .u8 a) := rfl
theorem line_g1 (a b c d e : Int) : (line a b c d e)[1]? = some (.int .u8 b) := rfl
theorem line_g2 (a b c d e : Int) : (line a b c d e)[2]? = some (.int .u8 c) := rfl
theorem line_g3 (a b c d e : Int) : (line a b c d e)[3]? = some (.int .i64 d) := rfl
theorem line_g4 (a b c d e : Int) : (line a b c d e)[4]? = some (.int .i64 e) := rfl
theorem line_sz (a b c d e : Int) : (line a b c d e).size = 5 := rfl
section
variable {W w : World} {l : List Thing} {p q : Nat} {m : Option Nat} {P : List Int} {S : Lgr} {R : Ending → World → Prop}
set_option maxRecDepth 100000
set_option maxHeartbeats 1000000
/-- What there() is met with. -/
theorem lthere_call (H : Heap W l w) (h : LdC p P (some q) ∈ l) (k : ∀ w', Heap W l w' → R (.returned (.bool true)) w') : Calls Tryz.prog 44 #[.pointer (some ⟨p, 0, none⟩)] w R := (lthere_H h).call H k
theorem lnew_H (H : Heap W l w) : Calls Tryz.prog 5 #[] w fun e w' => ∃ p q, e = .returned (.pointer (some ⟨p, 0, none⟩)) ∧ Heap W (LdC p [] (some q) :: LdM q [] :: l) w' := by
  go_enter Tryz.func5, Tryz.ntmps5
  go_wp2_with (first
    | go_skip
    | ((with_reducible show wpList _ _ _ (_ :: _) _ _); (with_reducible apply wpl_makeM (KS := KL)); (· rfl); (· exact H); (clear H; intro q _ H); (simp only [Act.put, List.setIfInBounds_toArray, List.set_cons_zero, List.set_cons_succ]))
    | ((with_reducible show wpList _ _ _ (_ :: _) _ _); (with_reducible apply wpl_boxRH); (· rfl); (· rfl); (· exact H); (clear H; intro px _ H); (simp only [Act.put, List.setIfInBounds_toArray, List.set_cons_zero, List.set_cons_succ])))
  go_ret
  exact ⟨px, q, rfl, H⟩
theorem lopen_H (a : Nat) (ha : a ≤ 255) (H : Heap W (LdC p S.P (some q) :: l) w) : Calls Tryz.prog 16 #[.pointer (some ⟨p, 0, none⟩), .int .u8 (a : Int)] w fun e w' => e = .returned (.int .i64 (openE S (a : Int))) ∧ Heap W (LdC p (openS S (a : Int)).P (some q) :: l) w' := by
  have m1 := lmay_ans a ha
  by_cases c1 : 1 ≤ a ∧ a ≤ 16
  · rw [decide_eq_true c1] at m1
    have h17 : a < 17 := by omega
    by_cases c2 : (a : Int) ∈ S.P
    · have e0 : openE S (a : Int) = 8 := by unfold openE; rw [if_neg (by omega), if_pos c2]
      have e1 : openS S (a : Int) = S := by unfold openS; rw [if_neg (by omega)]
      rw [e0, e1]
      have e2 : hasP S.P (a : Int) = true := decide_eq_true c2
      clear e0 e1 c2
      generalize S.P = P at *
      go_enter Tryz.func16, Tryz.ntmps16
      go_wp2_with (first | go_skip | ((with_reducible apply lthere_call H); (· (repeat (first | (with_reducible exact List.mem_cons_self) | with_reducible apply List.mem_cons_of_mem))); (clear H; intro _ H)) | ((with_reducible refine Ans.callH (by assumption) H ?_); clear H; intro _ H) | ((with_reducible show wpList _ _ _ (_ :: _) _ _); (with_reducible apply wpl_loadCH); (· exact cell_bool); (· rfl); (· rfl); (· exact H); (· (repeat (first | (with_reducible exact List.mem_cons_self) | with_reducible apply List.mem_cons_of_mem))); (· exact ledA_getb _ _ h17 e2); (simp only [Act.put, List.setIfInBounds_toArray, List.set_cons_zero, List.set_cons_succ])))
      go_ret
      exact ⟨rfl, H⟩
    · have e0 : openE S (a : Int) = 0 := by unfold openE; rw [if_neg (by omega), if_neg c2]
      have e1 : (openS S (a : Int)).P = insP S.P a := by unfold openS; rw [if_pos e0]
      rw [e0, e1]
      have e2 : hasP S.P (a : Int) = false := decide_eq_false c2
      clear e0 e1 c2
      generalize S.P = P at *
      go_enter Tryz.func16, Tryz.ntmps16
      go_wp2_with (first
        | go_skip | ((with_reducible apply lthere_call H); (· (repeat (first | (with_reducible exact List.mem_cons_self) | with_reducible apply List.mem_cons_of_mem))); (clear H; intro _ H)) | ((with_reducible refine Ans.callH (by assumption) H ?_); clear H; intro _ H) | ((with_reducible show wpList _ _ _ (_ :: _) _ _); (with_reducible apply wpl_loadCH); (· exact cell_bool); (· rfl); (· rfl); (· exact H); (· (repeat (first | (with_reducible exact List.mem_cons_self) | with_reducible apply List.mem_cons_of_mem))); (· exact ledA_getb _ _ h17 e2); (simp only [Act.put, List.setIfInBounds_toArray, List.set_cons_zero, List.set_cons_succ]))
        | ((with_reducible show wpList _ _ _ (_ :: _) _ _); (with_reducible apply wpl_storeBH); (· exact cell_bool); (· rfl); (· rfl); (· rfl); (· exact H); (· (repeat (first | (with_reducible exact List.mem_cons_self) | with_reducible apply List.mem_cons_of_mem))); (· (rw [ledA_sz]; omega)); (· exact ledA_set _ _ h17); (· (repeat (first | (with_reducible exact Repl.here) | with_reducible apply Repl.there))); (clear H; intro _ H); (simp only [Act.put, List.setIfInBounds_toArray, List.set_cons_zero, List.set_cons_succ])))
      go_ret
      exact ⟨rfl, H⟩
  · rw [decide_eq_false c1] at m1
    have e0 : openE S (a : Int) = 1 := by unfold openE; rw [if_pos (by omega)]
    have e1 : openS S (a : Int) = S := by unfold openS; rw [if_neg (by omega)]
    rw [e0, e1]
    clear e0 e1
    generalize S.P = P at *
    go_enter Tryz.func16, Tryz.ntmps16
    go_wp2_with (first | go_skip | ((with_reducible apply lthere_call H); (· (repeat (first | (with_reducible exact List.mem_cons_self) | with_reducible apply List.mem_cons_of_mem))); (clear H; intro _ H)) | ((with_reducible refine Ans.callH (by assumption) H ?_); clear H; intro _ H))
    go_ret
    exact ⟨rfl, H⟩
theorem key_nat (a b c : Nat) (ha : a ≤ 255) (hb : b ≤ 255) (hc : c ≤ 255) : KL (.agg (ends (a : Int) (b : Int) (c : Int))) := key_ok (by omega) (by omega) (by omega)
end
end Go.Proofs.YtgobnamhdkbbeaaGreat

/- ledgers.Ledger: Room. -/
namespace Go.Proofs.YtgobnamhdkbbeaaGreat
open Go.RowKit
set_option linter.unusedSimpArgs false
set_option linter.unusedVariables false
section
variable {W w : World} {l : List Thing} {p q : Nat} {m : Option Nat} {P : List Int} {S : Lgr} {R : Ending → World → Prop}
set_option maxRecDepth 100000
set_option maxHeartbeats 1000000
theorem lroom_H (f t c : Nat) (hf : f ≤ 255) (ht : t ≤ 255) (hc : c ≤ 255) (G : S.Good) (h : LdC p S.P (some q) ∈ l) (hm : LdM q S.L ∈ l) : AnsH W l 47 #[.pointer (some ⟨p, 0, none⟩), .int .u8 (f : Int), .int .u8 (t : Int), .int .u8 (c : Int)] (.int .i64 (roomOf S f t c)) := by
  intro w H
  have k1 := Lib.hid (key_nat f t c hf ht hc)
  have k2 := Lib.hid (key_nat t f c ht hf hc)
  have L1 := look_line G f t c
  have L2 := look_line G t f c
  have n1 := G.nums f t c
  have n2 := G.nums t f c
  have hr : roomOf S f t c = debOf S.L f t c + limOf S.L t f c - debOf S.L t f c := rfl
  rw [hr]
  clear hr
  generalize debOf S.L f t c = x at *
  generalize limOf S.L f t c = x' at *
  generalize debOf S.L t f c = y at *
  generalize limOf S.L t f c = y' at *
  have hs1 : wrap64 (x + y') = x + y' := IntWalk.wrap64_in _ ⟨by omega, by omega⟩
  have hs2 : wrap64 (x + y' - y) = x + y' - y := IntWalk.wrap64_in _ ⟨by omega, by omega⟩
  clear n1 n2
  replace L1 := Lib.hid L1
  replace L2 := Lib.hid L2
  go_enter Tryz.func47, Tryz.ntmps47
  go_wp2_with (first | go_skip | ((with_reducible apply lthere_call H); (· exact h); (clear H; intro _ H)))
  refine wp_region_M [18, 19, 20, 21] [(0, none), (1, none), (2, none), (3, none), (4, none), (5, none), (6, none), (7, none), (8, none), (9, none), (10, none), (11, none), (12, none), (13, none), (14, none), (15, none), (16, none), (17, none), (18, some 19), (20, none), (21, none)] (fun l0 => ∃ pre, l0 = pre ++ l) H ⟨[], rfl⟩ (by kernel_rfl) (by kernel_rfl) ?_
  iterate 18 (apply wpM_step; (· rfl); (· rfl); (· rfl); (· exact Nat.le_of_ble_eq_true rfl); (· rintro l0 ⟨pre, rfl⟩ w0 H0; (first | go_big_quiet_skip | (first | ((with_reducible apply wpQ_loadCH); (· exact cell_map); (· rfl); (· rfl); (· (refine List.mem_append_right _ ?_; exact h)); (· exact ledA_map _ _); (simp only [Act.put, List.setIfInBounds_toArray, List.set_cons_zero, List.set_cons_succ])) | ((with_reducible first | apply wpQ_look0 map_ty | apply wpQ_look1 map_ty); (· rfl); (· rfl); (· rfl); (· exact k1.out); (· (refine List.mem_append_right _ ?_; exact hm)); (· exact L1.out); (simp only [Act.put, List.setIfInBounds_toArray, List.set_cons_zero, List.set_cons_succ])) | ((with_reducible first | apply wpQ_look0 map_ty | apply wpQ_look1 map_ty); (· rfl); (· rfl); (· rfl); (· exact k2.out); (· (refine List.mem_append_right _ ?_; exact hm)); (· exact L2.out); (simp only [Act.put, List.setIfInBounds_toArray, List.set_cons_zero, List.set_cons_succ]))) | go_big_quiet_step (fail)); (refine wpQuiet_nil ?_); (simp only [Array.getD_eq_getD_getElem?, List.getElem?_toArray, List.getElem?_cons_succ, List.getElem?_cons_zero, Option.getD_some]; rfl)); (simp only [Act.put, List.setIfInBounds_toArray, List.set_cons_zero, List.set_cons_succ]))
  go_loud ((with_reducible apply wpM_alloc2 row_owe row_owe); (· rfl); (· rfl); (· rfl); (· rfl); (· decide); (· intro p; exact ⟨[_], rfl⟩); (· intro p; exact ⟨[_], rfl⟩); (· intro p q; exact ⟨[_, _], rfl⟩); (intro p1 p2); (simp only [Act.put, List.setIfInBounds_toArray, List.set_cons_zero, List.set_cons_succ]))
  go_loud ((with_reducible apply wpM_storeR row_owe); (· rfl); (· rfl); (· rfl); (· rfl); (· rfl); (· with_reducible exact owe_cells ..); (· (repeat (first | (with_reducible exact List.mem_cons_self) | with_reducible apply List.mem_cons_of_mem))); (· (simp only [owe_sz, Nat.reduceAdd, Nat.reduceLeDiff, Nat.le_refl]; done)); (· with_reducible exact owe_splice ..); (· (repeat (first | (with_reducible exact Repl.here) | with_reducible apply Repl.there))); (· exact ⟨[_, _], rfl⟩); (simp only [Act.put, List.setIfInBounds_toArray, List.set_cons_zero, List.set_cons_succ]))
  go_loud ((with_reducible apply wpM_storeR row_owe); (· rfl); (· rfl); (· rfl); (· rfl); (· rfl); (· with_reducible exact owe_cells ..); (· (repeat (first | (with_reducible exact List.mem_cons_self) | with_reducible apply List.mem_cons_of_mem))); (· (simp only [owe_sz, Nat.reduceAdd, Nat.reduceLeDiff, Nat.le_refl]; done)); (· with_reducible exact owe_splice ..); (· (repeat (first | (with_reducible exact Repl.here) | with_reducible apply Repl.there))); (· exact ⟨[_, _], rfl⟩); (simp only [Act.put, List.setIfInBounds_toArray, List.set_cons_zero, List.set_cons_succ]))
  (refine wpM_nil ?_; clear H; intro _ H)
  go_wp2_with (first | go_skip | ((with_reducible show wpList _ _ _ (_ :: _) _ _); (with_reducible apply wpl_loadCH); (· exact cell_i64); (· rfl); (· rfl); (· exact H); (· (repeat (first | (with_reducible exact List.mem_cons_self) | with_reducible apply List.mem_cons_of_mem))); (· (with_reducible first | exact owe_g0 .. | exact owe_g1 ..)); (simp only [Act.put, List.setIfInBounds_toArray, List.set_cons_zero, List.set_cons_succ])))
  go_ret
  exact ⟨congrArg (fun z => Ending.returned (.int .i64 z)) hs2, H.tail.tail⟩
end
end Go.Proofs.YtgobnamhdkbbeaaGreat

/- ledgers.Ledger: Line, add, Push, Forgive. -/
namespace Go.Proofs.YtgobnamhdkbbeaaGreat
open Go.RowKit
set_option linter.unusedSimpArgs false
set_option linter.unusedVariables false
/-- A line as it is told: of zeros, if there is none. -/
def lineC (L : List Lin) (cr db cu : Int) : Array Value := if isLine L cr db cu = true then line cr db cu (limOf L cr db cu) (debOf L cr db cu) else line 0 0 0 0 0
section
variable {W w : World} {l : List Thing} {p q : Nat} {m : Option Nat} {P : List Int} {S : Lgr} {R : Ending → World → Prop}
set_option maxRecDepth 100000
set_option maxHeartbeats 1000000
theorem lline_H (f t c : Nat) (hf : f ≤ 255) (ht : t ≤ 255) (hc : c ≤ 255) (G : S.Good) (h : LdC p S.P (some q) ∈ l) (hm : LdM q S.L ∈ l) : AnsH W l 51 #[.pointer (some ⟨p, 0, none⟩), .int .u8 (f : Int), .int .u8 (t : Int), .int .u8 (c : Int)] (.tuple #[.agg (lineC S.L f t c), .bool (isLine S.L f t c)]) := by
  intro w H
  have k1 := Lib.hid (key_nat f t c hf ht hc)
  have L1 := look_line G f t c
  unfold lineC
  cases hb : isLine S.L f t c
  · rw [hb] at L1
    rw [if_neg Bool.false_ne_true]
    replace L1 := Lib.hid L1
    clear hb
    go_enter Tryz.func51, Tryz.ntmps51
    go_wp2_with (first
      | go_skip
      | ((with_reducible apply lthere_call H); (· exact List.mem_cons_of_mem _ h); (clear H; intro _ H))
      | ((with_reducible show wpList _ _ _ (_ :: _) _ _); (with_reducible apply wpl_allocRH row_line); (· rfl); (· exact H); (clear H; intro pr _ H); (simp only [Act.put, List.setIfInBounds_toArray, List.set_cons_zero, List.set_cons_succ]))
      | ((with_reducible show wpList _ _ _ (_ :: _) _ _); (with_reducible apply wpl_loadCH); (· exact cell_map); (· rfl); (· rfl); (· exact H); (· exact List.mem_cons_of_mem _ h); (· exact ledA_map _ _); (simp only [Act.put, List.setIfInBounds_toArray, List.set_cons_zero, List.set_cons_succ]))
      | ((with_reducible show wpList _ _ _ (_ :: _) _ _); (with_reducible first | apply wpl_look0 map_ty | apply wpl_look1 map_ty); (· rfl); (· rfl); (· rfl); (· exact k1.out); (· exact H); (· exact List.mem_cons_of_mem _ hm); (· exact L1.out); (simp only [Act.put, List.setIfInBounds_toArray, List.set_cons_zero, List.set_cons_succ]))
      | ((with_reducible show wpList _ _ _ (_ :: _) _ _); (with_reducible apply wpl_allocRH row_owe); (· rfl); (· exact H); (clear H; intro po _ H); (simp only [Act.put, List.setIfInBounds_toArray, List.set_cons_zero, List.set_cons_succ]))
      | ((with_reducible show wpList _ _ _ (_ :: _) _ _); (with_reducible apply wpl_storeRH row_owe); (· rfl); (· rfl); (· rfl); (· with_reducible exact owe_cells ..); (· exact H); (· (repeat (first | (with_reducible exact List.mem_cons_self) | with_reducible apply List.mem_cons_of_mem))); (· (simp only [owe_sz, Nat.reduceAdd, Nat.reduceLeDiff, Nat.le_refl]; done)); (· with_reducible exact owe_splice ..); (· (repeat (first | (with_reducible exact Repl.here) | with_reducible apply Repl.there))); (clear H; intro _ H); (simp only [Act.put, List.setIfInBounds_toArray, List.set_cons_zero, List.set_cons_succ]))
      | ((with_reducible show wpList _ _ _ (_ :: _) _ _); (with_reducible apply wpl_storeRH row_line); (· rfl); (· rfl); (· rfl); (· with_reducible exact line_cells ..); (· exact H); (· (repeat (first | (with_reducible exact List.mem_cons_self) | with_reducible apply List.mem_cons_of_mem))); (· (simp only [line_sz, Nat.reduceAdd, Nat.reduceLeDiff, Nat.le_refl]; done)); (· with_reducible exact line_splice ..); (· (repeat (first | (with_reducible exact Repl.here) | with_reducible apply Repl.there))); (clear H; intro _ H); (simp only [Act.put, List.setIfInBounds_toArray, List.set_cons_zero, List.set_cons_succ])))
    exact ret_row2H row_line rfl rfl rfl H (by (repeat (first | (with_reducible exact List.mem_cons_self) | with_reducible apply List.mem_cons_of_mem))) rfl rfl ⟨rfl, H.tail.tail⟩
  · rw [hb] at L1
    rw [if_pos rfl]
    replace L1 := Lib.hid L1
    clear hb
    go_enter Tryz.func51, Tryz.ntmps51
    go_wp2_with (first
      | go_skip
      | ((with_reducible apply lthere_call H); (· exact List.mem_cons_of_mem _ h); (clear H; intro _ H))
      | ((with_reducible show wpList _ _ _ (_ :: _) _ _); (with_reducible apply wpl_allocRH row_line); (· rfl); (· exact H); (clear H; intro pr _ H); (simp only [Act.put, List.setIfInBounds_toArray, List.set_cons_zero, List.set_cons_succ]))
      | ((with_reducible show wpList _ _ _ (_ :: _) _ _); (with_reducible apply wpl_loadCH); (· exact cell_map); (· rfl); (· rfl); (· exact H); (· exact List.mem_cons_of_mem _ h); (· exact ledA_map _ _); (simp only [Act.put, List.setIfInBounds_toArray, List.set_cons_zero, List.set_cons_succ]))
      | ((with_reducible show wpList _ _ _ (_ :: _) _ _); (with_reducible first | apply wpl_look0 map_ty | apply wpl_look1 map_ty); (· rfl); (· rfl); (· rfl); (· exact k1.out); (· exact H); (· exact List.mem_cons_of_mem _ hm); (· exact L1.out); (simp only [Act.put, List.setIfInBounds_toArray, List.set_cons_zero, List.set_cons_succ]))
      | ((with_reducible show wpList _ _ _ (_ :: _) _ _); (with_reducible apply wpl_allocRH row_owe); (· rfl); (· exact H); (clear H; intro po _ H); (simp only [Act.put, List.setIfInBounds_toArray, List.set_cons_zero, List.set_cons_succ]))
      | ((with_reducible show wpList _ _ _ (_ :: _) _ _); (with_reducible apply wpl_storeRH row_owe); (· rfl); (· rfl); (· rfl); (· with_reducible exact owe_cells ..); (· exact H); (· (repeat (first | (with_reducible exact List.mem_cons_self) | with_reducible apply List.mem_cons_of_mem))); (· (simp only [owe_sz, Nat.reduceAdd, Nat.reduceLeDiff, Nat.le_refl]; done)); (· with_reducible exact owe_splice ..); (· (repeat (first | (with_reducible exact Repl.here) | with_reducible apply Repl.there))); (clear H; intro _ H); (simp only [Act.put, List.setIfInBounds_toArray, List.set_cons_zero, List.set_cons_succ]))
      | ((with_reducible show wpList _ _ _ (_ :: _) _ _); (with_reducible apply wpl_loadCH); (· exact cell_i64); (· rfl); (· rfl); (· exact H); (· (repeat (first | (with_reducible exact List.mem_cons_self) | with_reducible apply List.mem_cons_of_mem))); (· (with_reducible first | exact owe_g0 .. | exact owe_g1 ..)); (simp only [Act.put, List.setIfInBounds_toArray, List.set_cons_zero, List.set_cons_succ]))
      | ((with_reducible show wpList _ _ _ (_ :: _) _ _); (with_reducible apply wpl_storeRH row_line); (· rfl); (· rfl); (· rfl); (· with_reducible exact line_cells ..); (· exact H); (· (repeat (first | (with_reducible exact List.mem_cons_self) | with_reducible apply List.mem_cons_of_mem))); (· (simp only [line_sz, Nat.reduceAdd, Nat.reduceLeDiff, Nat.le_refl]; done)); (· with_reducible exact line_splice ..); (· (repeat (first | (with_reducible exact Repl.here) | with_reducible apply Repl.there))); (clear H; intro _ H); (simp only [Act.put, List.setIfInBounds_toArray, List.set_cons_zero, List.set_cons_succ])))
    exact ret_row2H row_line rfl rfl rfl H (by (repeat (first | (with_reducible exact List.mem_cons_self) | with_reducible apply List.mem_cons_of_mem))) rfl rfl ⟨rfl, H.tail.tail⟩
theorem ladd_H (f t c : Nat) (n : Int) (hf : f ≤ 255) (ht : t ≤ 255) (hc : c ≤ 255) (G : S.Good) (hz : n = 0 ∨ isLine S.L f t c = true) (hn : -1099511627776 ≤ n ∧ n ≤ 1099511627776) (H : Heap W (LdC p S.P (some q) :: LdM q S.L :: l) w) :
    Calls Tryz.prog 48 #[.pointer (some ⟨p, 0, none⟩), .agg (ends (f : Int) (t : Int) (c : Int)), .int .i64 n] w fun e w' => e = .returned (.tuple #[]) ∧ Heap W (LdC p S.P (some q) :: LdM q (addL S.L f t c n) :: l) w' := by
  by_cases h0 : n = 0
  · subst h0
    rw [addL_zero]
    clear hz hn G
    go_enter Tryz.func48, Tryz.ntmps48
    go_wp2_with (first | go_skip | ((with_reducible show wpList _ _ _ (_ :: _) _ _); (with_reducible apply wpl_boxRH); (· rfl); (· rfl); (· exact H); (clear H; intro px _ H); (simp only [Act.put, List.setIfInBounds_toArray, List.set_cons_zero, List.set_cons_succ])))
    go_end0
    exact ⟨rfl, H.tail⟩
  · have hl : isLine S.L f t c = true := hz.resolve_left h0
    have e0 : (n != 0) = true := by simpa using h0
    have k1 := Lib.hid (key_nat f t c hf ht hc)
    have L1 := look_line G f t c
    have hp := put_set (x := ⟨f, t, c, limOf S.L f t c, debOf S.L f t c + n⟩) G.ord G.smalls (by unfold Small; simp only; omega) (by
      obtain ⟨x, hx, ha⟩ := isLine_iff.1 hl
      obtain ⟨h1, h2, h3⟩ := Lin.at_iff.1 ha
      have := (G.vals hx).2.1
      rw [h1, h2, h3] at this
      have := (G.ok x hx).lim
      simp only; omega)
    rw [← G.add_set hl n] at hp
    simp only at hp
    have nn := G.nums f t c
    have hs : wrap64 (debOf S.L f t c + n) = debOf S.L f t c + n := IntWalk.wrap64_in _ ⟨by omega, by omega⟩
    clear hz hn nn hl h0
    replace L1 := Lib.hid L1
    replace hp := Lib.hid hp
    generalize debOf S.L f t c = x at *
    generalize limOf S.L f t c = x' at *
    generalize S.P = P at *
    go_enter Tryz.func48, Tryz.ntmps48
    go_wp2_with (first | go_skip | ((with_reducible show wpList _ _ _ (_ :: _) _ _); (with_reducible apply wpl_boxRH); (· rfl); (· rfl); (· exact H); (clear H; intro px _ H); (simp only [Act.put, List.setIfInBounds_toArray, List.set_cons_zero, List.set_cons_succ])))
    refine wp_region_M [6, 7] [(0, none), (1, none), (2, none), (3, none), (4, none), (5, none), (6, none), (7, none)] (fun l0 => ∃ pre, l0 = pre ++ (Cel px (ends (f : Int) (t : Int) (c : Int)) 90 :: LdC p P (some q) :: LdM q S.L :: l)) H ⟨[], rfl⟩ (by kernel_rfl) (by kernel_rfl) ?_
    iterate 6 (apply wpM_step; (· rfl); (· rfl); (· rfl); (· exact Nat.le_of_ble_eq_true rfl); (· rintro l0 ⟨pre, rfl⟩ w0 H0; (first | go_big_quiet_skip | (first | ((with_reducible apply wpQ_loadCH); (· exact cell_map); (· rfl); (· rfl); (· ((refine List.mem_append_right _ ?_); (repeat (first | (with_reducible exact List.mem_cons_self) | with_reducible apply List.mem_cons_of_mem)))); (· exact ledA_map _ _); (simp only [Act.put, List.setIfInBounds_toArray, List.set_cons_zero, List.set_cons_succ])) | ((with_reducible apply wpQ_loadRH row_ends); (· rfl); (· rfl); (· ((refine List.mem_append_right _ ?_); (repeat (first | (with_reducible exact List.mem_cons_self) | with_reducible apply List.mem_cons_of_mem)))); (· (simp only [ends_sz, Nat.reduceAdd, Nat.reduceLeDiff, Nat.le_refl]; done)); (· exact ends_all ..); (simp only [Act.put, List.setIfInBounds_toArray, List.set_cons_zero, List.set_cons_succ])) | ((with_reducible first | apply wpQ_look0 map_ty | apply wpQ_look1 map_ty); (· rfl); (· rfl); (· rfl); (· exact k1.out); (· ((refine List.mem_append_right _ ?_); (repeat (first | (with_reducible exact List.mem_cons_self) | with_reducible apply List.mem_cons_of_mem)))); (· exact L1.out); (simp only [Act.put, List.setIfInBounds_toArray, List.set_cons_zero, List.set_cons_succ]))) | go_big_quiet_step (fail)); (refine wpQuiet_nil ?_); (simp only [Array.getD_eq_getD_getElem?, List.getElem?_toArray, List.getElem?_cons_succ, List.getElem?_cons_zero, Option.getD_some]; rfl)); (simp only [Act.put, List.setIfInBounds_toArray, List.set_cons_zero, List.set_cons_succ]))
    ((with_reducible apply wpM_allocR row_owe); (· rfl); (· rfl); (· rfl); (· intro p; exact ⟨[_], rfl⟩); (intro po); (simp only [Act.put, List.setIfInBounds_toArray, List.set_cons_zero, List.set_cons_succ]))
    ((with_reducible apply wpM_storeR row_owe); (· rfl); (· rfl); (· rfl); (· rfl); (· rfl); (· with_reducible exact owe_cells ..); (· (repeat (first | (with_reducible exact List.mem_cons_self) | with_reducible apply List.mem_cons_of_mem))); (· (simp only [owe_sz, Nat.reduceAdd, Nat.reduceLeDiff, Nat.le_refl]; done)); (· with_reducible exact owe_splice ..); (· (repeat (first | (with_reducible exact Repl.here) | with_reducible apply Repl.there))); (· exact ⟨[_], rfl⟩); (simp only [Act.put, List.setIfInBounds_toArray, List.set_cons_zero, List.set_cons_succ]))
    (refine wpM_nil ?_; clear H; intro _ H)
    go_wp2_with (first | go_skip | ((with_reducible show wpList _ _ _ (_ :: _) _ _); (with_reducible apply wpl_loadCH); (· exact cell_i64); (· rfl); (· rfl); (· exact H); (· (repeat (first | (with_reducible exact List.mem_cons_self) | with_reducible apply List.mem_cons_of_mem))); (· (with_reducible first | exact owe_g0 .. | exact owe_g1 ..)); (simp only [Act.put, List.setIfInBounds_toArray, List.set_cons_zero, List.set_cons_succ])) | (first | ((with_reducible show wpList _ _ _ (_ :: _) _ _); (with_reducible apply wpl_storeIH); (· exact cell_i64); (· rfl); (· rfl); (· rfl); (· exact H); (· (repeat (first | (with_reducible exact List.mem_cons_self) | with_reducible apply List.mem_cons_of_mem))); (· (simp only [owe_sz, Nat.reduceLT]; done)); (· (with_reducible first | exact owe_s0 .. | exact owe_s1 ..)); (· (repeat (first | (with_reducible exact Repl.here) | with_reducible apply Repl.there))); (clear H; intro _ H); (simp only [Act.put, List.setIfInBounds_toArray, List.set_cons_zero, List.set_cons_succ])) | ((with_reducible show wpList _ _ _ (_ :: _) _ _); (with_reducible apply wpl_storeBH); (· exact cell_i64); (· rfl); (· rfl); (· rfl); (· exact H); (· (repeat (first | (with_reducible exact List.mem_cons_self) | with_reducible apply List.mem_cons_of_mem))); (· (simp only [owe_sz, Nat.reduceLT]; done)); (· (with_reducible first | exact owe_s0 .. | exact owe_s1 ..)); (· (repeat (first | (with_reducible exact Repl.here) | with_reducible apply Repl.there))); (clear H; intro _ H); (simp only [Act.put, List.setIfInBounds_toArray, List.set_cons_zero, List.set_cons_succ])) | ((with_reducible show wpList _ _ _ (_ :: _) _ _); (with_reducible apply wpl_storeSH); (· exact cell_i64); (· rfl); (· rfl); (· rfl); (· exact H); (· (repeat (first | (with_reducible exact List.mem_cons_self) | with_reducible apply List.mem_cons_of_mem))); (· (simp only [owe_sz, Nat.reduceLT]; done)); (· (with_reducible first | exact owe_s0 .. | exact owe_s1 ..)); (· (repeat (first | (with_reducible exact Repl.here) | with_reducible apply Repl.there))); (clear H; intro _ H); (simp only [Act.put, List.setIfInBounds_toArray, List.set_cons_zero, List.set_cons_succ])) | ((with_reducible show wpList _ _ _ (_ :: _) _ _); (with_reducible apply wpl_storePH); (· exact cell_i64); (· rfl); (· rfl); (· rfl); (· exact H); (· (repeat (first | (with_reducible exact List.mem_cons_self) | with_reducible apply List.mem_cons_of_mem))); (· (simp only [owe_sz, Nat.reduceLT]; done)); (· (with_reducible first | exact owe_s0 .. | exact owe_s1 ..)); (· (repeat (first | (with_reducible exact Repl.here) | with_reducible apply Repl.there))); (clear H; intro _ H); (simp only [Act.put, List.setIfInBounds_toArray, List.set_cons_zero, List.set_cons_succ]))))
    rw [hs] at H
    refine wp_region_H_tail 6 H (by kernel_rfl) (by kernel_rfl) ?_
    simp only [List.take_succ_cons, List.take_zero, List.drop_succ_cons, List.drop_zero]
    repeat (first | go_big_quiet_skip | (first | ((with_reducible apply wpQ_loadCH); (· exact cell_map); (· rfl); (· rfl); (· (repeat (first | (with_reducible exact List.mem_cons_self) | with_reducible apply List.mem_cons_of_mem))); (· exact ledA_map _ _); (simp only [Act.put, List.setIfInBounds_toArray, List.set_cons_zero, List.set_cons_succ])) | ((with_reducible apply wpQ_loadRH row_ends); (· rfl); (· rfl); (· (repeat (first | (with_reducible exact List.mem_cons_self) | with_reducible apply List.mem_cons_of_mem))); (· (simp only [ends_sz, Nat.reduceAdd, Nat.reduceLeDiff, Nat.le_refl]; done)); (· with_reducible exact ends_all ..); (simp only [Act.put, List.setIfInBounds_toArray, List.set_cons_zero, List.set_cons_succ])) | ((with_reducible apply wpQ_loadRH row_owe); (· rfl); (· rfl); (· (repeat (first | (with_reducible exact List.mem_cons_self) | with_reducible apply List.mem_cons_of_mem))); (· (simp only [owe_sz, Nat.reduceAdd, Nat.reduceLeDiff, Nat.le_refl]; done)); (· with_reducible exact owe_all ..); (simp only [Act.put, List.setIfInBounds_toArray, List.set_cons_zero, List.set_cons_succ]))) | go_big_quiet_step (fail))
    refine wpQuiet_nil ?_
    clear H
    intro _ H
    go_wp2_with (first | go_skip | ((with_reducible show wpList _ _ _ (_ :: _) _ _); (with_reducible apply wpl_putM map_ty); (· rfl); (· rfl); (· rfl); (· rfl); (· exact k1.out); (· exact H); (· exact hp.out); (· (repeat (first | (with_reducible exact Repl.here) | with_reducible apply Repl.there))); (clear H; intro _ H); (simp only [Act.put, List.setIfInBounds_toArray, List.set_cons_zero, List.set_cons_succ])))
    go_end0
    exact ⟨rfl, H.tail.tail⟩
end
end Go.Proofs.YtgobnamhdkbbeaaGreat
