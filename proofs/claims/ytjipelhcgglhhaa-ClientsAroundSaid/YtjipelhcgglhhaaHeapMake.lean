/- A region that draws its order, over a memory of things: operations that only read, or call what only makes memory; one that makes a row, wherever it comes among them; and, behind all of these, others in one order. One walk serves every order. -/
import Derived.Test.YtjipelhcgglhhaaHeap
namespace Go.Proofs.Ytjipelhcgglhhaa
open Go.RowKit

section
variable {P : Program} {ops : Array Oper} {md : Region.Mode} {W : World} {z : Array Value} {T : TypeId} {lt : List Thing}
/-- From each world in which the things lie so the operation yields v, and leaves a world behind that one. -/
def YieldsX (P : Program) (ops : Array Oper) (W : World) (lt : List Thing) (o : Oper) (v : Value) (a : Act) : Prop := ∀ w0, Heap W lt w0 → YieldsIn P ops (fun w' => ∃ e, w' = World.ext w0 e) o v a
theorem YieldsX.of_same {o : Oper} {v : Value} {a a' : Act} (hy : YieldsX P ops W lt o v a) (he : execOp a'.eval o = execOp a.eval o)
    (hw : Region.wanted o (yielded ops a'.tmps) = Region.wanted o (yielded ops a.tmps)) : YieldsX P ops W lt o v a' := fun d hd => (hy d hd).of_same he hw
/-- The operation makes a row of these cells. -/
def MakesX (P : Program) (ops : Array Oper) (z : Array Value) (T : TypeId) (o : Oper) : Prop :=
  ∀ (a : Act) (w : World), Region.wanted o (yielded ops a.tmps) = true ∧ ∀ (K : Act → World → Prop) (Q : Exit → Act → World → Prop), K (a.put o.dst (.pointer (some ⟨w.heap.size, 0, none⟩))) (w.alloc (.cells z T)) → o.wp P a w K Q
/-- The things, and what was made. -/
def InvX (W : World) (lt : List Thing) (z : Array Value) (T : TypeId) : Option Nat → World → Prop
  | none, w => Heap W lt w
  | some p, w => Heap W (Cel p z T :: lt) w
theorem InvX.heap {q : Option Nat} {w : World} (h : InvX W lt z T q w) : Heap W lt w := by
  cases q with
  | none => exact h
  | some p => exact Heap.tail h
theorem InvX.grow {q : Option Nat} {w w' : World} (h : InvX W lt z T q w) (e : Ext w w') : InvX W lt z T q w' := by
  cases q with
  | none => exact Heap.grow h e
  | some p => exact Heap.grow h e
def HeadX (P : Program) (md : Region.Mode) (ops : Array Oper) (W : World) (lt : List Thing) (n m : Nat) (L : Option Nat → Array Bool → Act → Prop) : Nat → Option Nat → Array Bool → Act → Prop
  | 0, q, listed, a => L q listed a
  | f + 1, q, listed, a => Region.ready md ops listed ≠ [] ∧ ∀ i ∈ Region.ready md ops listed, i < n ∧ ∃ o, ops[i]? = some o ∧
      ((i = m ∧ ∀ p, HeadX P md ops W lt n m L f (some p) (listed.setIfInBounds i true) (a.put o.dst (.pointer (some ⟨p, 0, none⟩)))) ∨
       (i ≠ m ∧ ∃ v, YieldsX P ops W lt o v a ∧ HeadX P md ops W lt n m L f q (listed.setIfInBounds i true) (a.put o.dst v)))
theorem HeadX.any {n m g : Nat} {L : Option Nat → Array Bool → Act → Prop} {Q : Exit → Act → World → Prop} (hA : ∀ o, ops[m]? = some o → MakesX P ops z T o)
    (hL : ∀ q listed a w, InvX W lt z T q w → L q listed a → wpAny P md ops Q g listed a w) :
    ∀ (f : Nat) (q : Option Nat) (listed : Array Bool) (a : Act) (w : World), InvX W lt z T q w → HeadX P md ops W lt n m L f q listed a → wpAny P md ops Q (f + g) listed a w := by
  intro f
  induction f with
  | zero => intro q listed a w hw h; rw [Nat.zero_add]; exact hL _ _ _ _ hw h
  | succ f ih =>
    intro q listed a w hw h
    rw [show f + 1 + g = (f + g) + 1 by omega]
    refine ⟨fun h0 => absurd h0 h.1, fun i hi => ?_⟩
    obtain ⟨_, o, ho, h⟩ := h.2 i hi
    rcases h with ⟨rfl, h⟩ | ⟨_, v, hy, h⟩
    · unfold wpOp
      simp only [ho]
      rw [if_pos (hA o ho a w).1]
      exact .inl ((hA o ho a w).2 _ _ (ih (some w.heap.size) _ _ _ (hw.heap.alloc _ _) (h _)))
    · refine wpOp_of_qOp (C := fun w' => ∃ e, w' = World.ext w e) (ext_of (Below.refl _ _)) (fun a' w' hw' ha' => ?_) ((hy w hw.heap).qOp ho (K := fun a' => a' = a.put o.dst v) rfl)
      obtain ⟨e, rfl⟩ := hw'
      subst ha'
      exact ih _ _ _ _ (hw.grow (ext_below w e)) h
theorem HeadX.first {n m i : Nat} {oi : Oper} {v : Value} {L : Option Nat → Array Bool → Act → Prop} (hi : ops[i]? = some oi) (hsel : ∀ (j : Nat) (o : Oper) cs b, ops[j]? = some o → o.op ≠ .select cs b)
    (hs : Region.sinkB md ops n = true) (hc : Region.chainB md ops n = true) (hn : n < ops.size) (hin : i < n) (him : i ≠ m) (hdone : ∀ q listed a, L q listed a → ∀ j ∈ Region.ready md ops listed, n ≤ j) :
    ∀ (f : Nat) (q : Option Nat) (listed : Array Bool) (a : Act), HeadInv md ops n listed →
      (∀ j oj, ops[j]? = some oj → j ≠ i → listed.getD j true = false → (∀ e ∈ oj.after, Region.binds md e = true → e.on ≠ i) → oi.apart ops oj = true) →
      i ∈ Region.ready md ops listed → YieldsX P ops W lt oi v a → HeadX P md ops W lt n m L f q (listed.setIfInBounds i true) (a.put oi.dst v) → HeadX P md ops W lt n m L (f + 1) q listed a := by
  intro f
  induction f with
  | zero =>
    intro q listed a inv _ hr hy H
    refine ⟨fun h => by rw [h] at hr; simp at hr, fun j hj => ?_⟩
    have hjn : j < n := Nat.lt_of_not_le fun h => tail_waits hs hc hn inv _ i rfl hin (mem_ready.1 hr).1 j h hj
    refine ⟨hjn, ?_⟩
    by_cases e : j = i
    · subst e; exact ⟨oi, hi, .inr ⟨him, v, hy, H⟩⟩
    · have := hdone _ _ _ H j (ready_mono hj e)
      omega
  | succ f ih =>
    intro q listed a inv hfree hr hy H
    have hun := (mem_ready.1 hr).1
    refine ⟨fun h => by rw [h] at hr; simp at hr, fun j hj => ?_⟩
    have hjn : j < n := Nat.lt_of_not_le fun h => tail_waits hs hc hn inv _ i rfl hin hun j h hj
    refine ⟨hjn, ?_⟩
    by_cases e : j = i
    · subst e; exact ⟨oi, hi, .inr ⟨him, v, hy, H⟩⟩
    · obtain ⟨hjun, oj, hoj, hall⟩ := mem_ready.1 hj
      have hnot : ∀ e ∈ oj.after, Region.binds md e = true → e.on ≠ i := fun e he hb heq => by
        have := hall e he hb
        rw [heq, getD_both hun] at this
        cases this
      obtain ⟨h1, h2, h3⟩ := Oper.apart_spec (hfree j oj hoj e hjun hnot)
      have hsi := fun cs b => hsel i oi cs b hi
      have hsj := fun cs b => hsel j oj cs b hoj
      have keep : ∀ u, YieldsX P ops W lt oi v (a.put oj.dst u) := fun u => hy.of_same (execOp_put oi hsi a oj.dst u h3) (wanted_put oi a oj.dst u h3)
      have hfree' : ∀ k ok, ops[k]? = some ok → k ≠ i → (listed.setIfInBounds j true).getD k true = false →
          (∀ e ∈ ok.after, Region.binds md e = true → e.on ≠ i) → oi.apart ops ok = true := fun k ok hk hki hun hno => by
        refine hfree k ok hk hki ?_ hno
        by_cases hjk : j = k
        · subst hjk; exact hjun
        · rw [getD_set_ne true hjk] at hun; exact hun
      obtain ⟨_, o', ho', h⟩ := H.2 j (ready_mono hj e)
      obtain rfl : o' = oj := Option.some.inj (ho'.symm.trans hoj)
      refine ⟨o', hoj, ?_⟩
      rcases h with ⟨rfl, h⟩ | ⟨hm, u, hu, h⟩
      · refine .inl ⟨rfl, fun p => ih _ _ _ (inv.set hj hjn) hfree' (ready_mono hr (Ne.symm e)) (keep _) ?_⟩
        rw [Array.setIfInBounds_comm _ _ e, ← Act.put_comm a v _ h2]
        exact h p
      · refine .inr ⟨hm, u, hu.of_same (execOp_put o' hsj a oi.dst v h1).symm (wanted_put o' a oi.dst v h1).symm, ih _ _ _ (inv.set hj hjn) hfree' (ready_mono hr (Ne.symm e)) (keep _) ?_⟩
        rw [Array.setIfInBounds_comm _ _ e, ← Act.put_comm a v _ h2]
        exact h
theorem HeadX.last {n m : Nat} {om : Oper} {L : Option Nat → Array Bool → Act → Prop} (hom : ops[m]? = some om)
    (hs : Region.sinkB md ops n = true) (hc : Region.chainB md ops n = true) (hn : n < ops.size) (hin : m < n) (hdone : ∀ q listed a, L q listed a → ∀ j ∈ Region.ready md ops listed, n ≤ j)
    (q : Option Nat) (listed : Array Bool) (a : Act) (inv : HeadInv md ops n listed) (hr : m ∈ Region.ready md ops listed) (H : ∀ p, L (some p) (listed.setIfInBounds m true) (a.put om.dst (.pointer (some ⟨p, 0, none⟩)))) : HeadX P md ops W lt n m L 1 q listed a := by
  refine ⟨fun h => by rw [h] at hr; simp at hr, fun j hj => ?_⟩
  have hjn : j < n := Nat.lt_of_not_le fun h => tail_waits hs hc hn inv _ m rfl hin (mem_ready.1 hr).1 j h hj
  refine ⟨hjn, ?_⟩
  by_cases e : j = m
  · subst e; exact ⟨om, hom, .inl ⟨rfl, H⟩⟩
  · have := hdone _ _ _ (H 0) j (ready_mono hj e)
    omega
/-- The walk in the order of the text, the making last. -/
def wpX (P : Program) (ops : Array Oper) (W : World) (lt : List Thing) (t : Option Tmp) (K : Nat → Act → Prop) : List Oper → Act → Prop
  | [], a => ∀ p, K p (a.put t (.pointer (some ⟨p, 0, none⟩)))
  | o :: l, a => ∃ v, YieldsX P ops W lt o v a ∧ wpX P ops W lt t K l (a.put o.dst v)
theorem HeadX.lex {n m g : Nat} {om : Oper} {K : Nat → Act → Prop} (hom : ops[m]? = some om) (hnm : n = m + 1) (hsel : Region.noSelect ops = true) (hs : Region.sinkB md ops n = true) (hc : Region.chainB md ops n = true) (hn : n < ops.size) :
    ∀ (l : List Oper) (k : Nat) (listed : Array Bool) (a : Act), (∀ j, j < l.length → l[j]? = ops[k + j]?) → k + l.length = m → HeadInv md ops n listed →
    Region.lexHead md ops g (l.length + 1) k listed = true → wpX P ops W lt om.dst K l a → HeadX P md ops W lt n m (fun q listed' a' => Region.seqB md ops g n listed' = true ∧ ∃ p, q = some p ∧ K p a') (l.length + 1) none listed a := by
  intro l
  induction l with
  | nil =>
    intro k listed a _ hk inv hB h
    obtain rfl : k = m := by simpa using hk
    subst hnm
    simp only [List.length_nil, Region.lexHead, Bool.and_eq_true] at hB
    exact HeadX.last hom hs hc hn (by omega) (fun _ _ _ hL => seqB_ready hL.1) none listed a inv (by simpa using hB.1.1) fun p => ⟨by simpa [Region.lexHead] using hB.2, p, rfl, h p⟩
  | cons o l ih =>
    intro k listed a hl hk inv hB h
    have h0 : ops[k]? = some o := by simpa using (hl 0 (by simp)).symm
    simp only [List.length_cons] at hk
    rw [List.length_cons, Region.lexHead] at hB
    simp only [Bool.and_eq_true] at hB
    have hr : k ∈ Region.ready md ops listed := by simpa using hB.1.1
    obtain ⟨v, hy, hK⟩ := h
    exact HeadX.first h0 (Region.noSelect_spec hsel) hs hc hn (by omega) (by omega) (fun _ _ _ hL => seqB_ready hL.1) (l.length + 1) none listed a inv (Region.free_spec h0 hB.1.2) hr hy
      (ih (k + 1) _ _ (fun j hj => by have := hl (j + 1) (by simp; omega); simpa [Nat.add_assoc, Nat.add_comm 1 j] using this) (by omega) (inv.set hr (by omega)) hB.2 hK)
theorem wp_region_X_make {id m : Nat} {Q : Exit → Act → World → Prop} {a : Act} {w : World} {l : List Oper} {om : Oper} (HH : Heap W lt w) (hm : P.follows .mixedOrders = true) (hB : Region.lexTailB .any l.toArray (m + 1) = true) (hom : l[m]? = some om) (hA : MakesX P l.toArray z T om)
    (h : wpX P l.toArray W lt om.dst (fun p a' => ∀ w', Heap W (Cel p z T :: lt) w' → wpList P l.toArray Q (l.drop (m + 1)) a' w') (l.take m) a) : (Code.region id l.toArray true).wp P Q a w := by
  simp only [Region.lexTailB, Bool.and_eq_true, decide_eq_true_eq] at hB
  obtain ⟨⟨⟨⟨hsel, hn⟩, hs⟩, hc⟩, hlex⟩ := hB
  have hn' : m + 1 < l.length := by simpa using hn
  have htl : (l.take m).length = m := by simp; omega
  have hdl : (l.drop (m + 1)).length = l.toArray.size - (m + 1) := by simp
  have H := HeadX.lex (md := .any) (g := l.toArray.size - (m + 1)) (by simpa using hom) rfl hsel hs hc hn (l.take m) 0 (Array.replicate l.toArray.size false) a (fun j hj => by
    have hj' : j < m := by rw [htl] at hj; exact hj
    simp [hj']) (by simpa using htl) ⟨by simp, fun j oj _ hl => (by rw [getD_replicate_false] at hl; cases hl), fun t _ ht => getD_in (by simpa using ht) (getD_replicate_false _ _)⟩ (by rw [htl]; exact hlex) h
  refine wp_region_any hm ?_
  have := HeadX.any (Q := Q) (z := z) (T := T) (g := l.toArray.size - (m + 1)) (fun o ho => by
      obtain rfl : o = om := Option.some.inj (ho.symm.trans (by simpa using hom))
      exact hA) (fun q listed a' w' hw' hL => by
    obtain ⟨h1, p, rfl, h2⟩ := hL
    have := wpAny_of_seq (md := .any) (Q' := Q) (l.drop (m + 1)) (m + 1) listed a' w' (fun j => by simp [List.getElem?_drop]) (by rw [hdl]; exact h1) (h2 w' hw')
    rwa [hdl] at this) _ none _ _ _ HH.drew H
  rwa [htl, show m + 1 + (l.toArray.size - (m + 1)) = l.toArray.size by omega] at this
theorem wpX_step {t : Option Tmp} {K : Nat → Act → Prop} {o : Oper} {l : List Oper} {a : Act} {s : Nat} {v : Value} (hd : o.dst = some s) (hlt : s < a.tmps.size)
    (h1 : ∀ w0, Heap W lt w0 → wpQuiet P ops (fun w' => ∃ e, w' = World.ext w0 e) (fun a' => a'.tmps.getD s undef = v) [o] a) (h2 : wpX P ops W lt t K l (a.put o.dst v)) : wpX P ops W lt t K (o :: l) a := by
  have inj : ∀ u, (a.put o.dst u).tmps.getD s undef = v → u = v := fun u h => by
    rw [hd] at h
    simp [Act.put, hlt] at h
    exact h
  refine ⟨v, fun w0 H0 => ?_, h2⟩
  have h := h1 w0 H0
  unfold wpQuiet at h
  by_cases hw : Region.wanted o (yielded ops a.tmps) = true
  · rw [if_pos hw] at h
    obtain ⟨u, hu, hk⟩ := h
    obtain rfl := inj u hk
    exact .inl ⟨hw, hu⟩
  · rw [if_neg hw] at h
    exact .inr ⟨by simpa using hw, (inj undef h).symm⟩
end
theorem makesX_row {ops : Array Oper} {T n : Nat} {z : Array Value} (RT : RowTy T n z) {dst : Option Tmp} {ty : TypeId} {pos : String} {after : Array Edge} (hw : ∀ y, Region.wanted ⟨dst, .alloc T, ty, pos, after, none⟩ y = true) : MakesX Try.prog ops z T ⟨dst, .alloc T, ty, pos, after, none⟩ := by
  refine fun a w => ⟨hw _, fun K Q h => ?_⟩
  have hz := RT.zero
  cases hi : Try.prog.info? T with
  | none => rw [hi] at hz; cases hz
  | some i =>
    rw [hi] at hz
    have hz' : i.zero = some (.agg z) := hz
    unfold Oper.wp execOp
    simp [Instr.alloc, zeroValue, typeInfo, hi, hz', newVar, newRow, Value.cells, go_sem]
    exact h
section
variable {ops : Array Oper} {rest : List Oper} {a : Act} {w0 W : World} {l : List Thing} {T : TypeId}
theorem wpQ_loadCX {dst : Option Tmp} {ty : TypeId} {pos : String} {after : Array Edge} {guard : Option (Nat × Bool)} {x : Operand} {b off : Nat} {K : Act → Prop} (CT : CellTy T) (hw : Region.wanted ⟨dst, .load T x, ty, pos, after, guard⟩ (yielded ops a.tmps) = true) (hx : a.eval x = .pointer (some ⟨b, off, none⟩))
    (H0 : Heap W l w0) {c : Array Value} {v : Value} {t : TypeId} (m : Cel b c t ∈ l) (hv : c[off]? = some v)
    (h : wpQuiet Try.prog ops (fun w' => ∃ d, w' = World.ext w0 d) K rest (a.put dst v)) : wpQuiet Try.prog ops (fun w' => ∃ d, w' = World.ext w0 d) K (⟨dst, .load T x, ty, pos, after, guard⟩ :: rest) a := by
  refine BigFrame.wpQuiet_want hw fun K hK => ⟨_, ?_, hK _ h⟩
  rintro _ ⟨d, rfl⟩
  unfold Oper.quietAt execOp
  simp only [hx, Sem.run_bind, run_loadC CT (blk_extS (d := d) (H0.blk m)) hv]
  exact ⟨rfl, rfl⟩
end
end Go.Proofs.Ytjipelhcgglhhaa
