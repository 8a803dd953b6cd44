/- Part 4 of what ProofClientsPlay stands on: HeapMake, Ref27, CliTake, HeapLoud, HeapCalls. -/
import Derived.Test.YtjipelhcgglhhaaCliPPart3
import Derived.Defers
/- A region that draws its order, over a memory of things: operations that only read, or call what only makes memory; one that makes a row, wherever it comes among them; and, behind all of these, others in one order. One walk serves every order. -/
namespace Go.Proofs.Ytjipelhcgglhhaa
open Go.RowKit

section
variable {P : Program} {ops : Array Oper} {md : Region.Mode} {W : World} {z : Array Value} {T : TypeId} {lt : List Thing}
/-- From each world in which the things lie so the operation yields v, and leaves a world behind that one. -/
def YieldsX (P : Program) (ops : Array Oper) (W : World) (lt : List Thing) (o : Oper) (v : Value) (a : Act) : Prop := ∀ (pre : List Thing) (w0 : World) (H : Heap W (pre ++ lt) w0), YieldsIn P ops (fun w' => ∃ d, w' = H.any d) o v a
theorem YieldsX.of_same {o : Oper} {v : Value} {a a' : Act} (hy : YieldsX P ops W lt o v a) (he : execOp a'.eval o = execOp a.eval o)
    (hw : Region.wanted o (yielded ops a'.tmps) = Region.wanted o (yielded ops a.tmps)) : YieldsX P ops W lt o v a' := fun pre d hd => (hy pre d hd).of_same he hw
/-- The operation makes a row of these cells. -/
def MakesX (P : Program) (ops : Array Oper) (z : Array Value) (T : TypeId) (o : Oper) : Prop :=
  ∀ (a : Act) (w : World), Region.wanted o (yielded ops a.tmps) = true ∧ ∀ (K : Act → World → Prop) (Q : Exit → Act → World → Prop), K (a.put o.dst (.pointer (some ⟨w.heap.size, 0, none⟩))) (w.alloc (.cells z T)) → o.wp P a w K Q
def preX (z : Array Value) (T : TypeId) : Option Nat → List Thing
  | none => []
  | some p => [Cel p z T]
/-- The things, and what was made. -/
def InvX (W : World) (lt : List Thing) (z : Array Value) (T : TypeId) (q : Option Nat) (w : World) : Prop := Heap W (preX z T q ++ lt) w
theorem InvX.heap {q : Option Nat} {w : World} (h : InvX W lt z T q w) : Heap W lt w := by
  cases q with
  | none => exact h
  | some p => exact Heap.tail h
def HeadX (P : Program) (md : Region.Mode) (ops : Array Oper) (W : World) (lt : List Thing) (n m : Nat) (L : Option Nat → Array Bool → Act → Prop) : Nat → Option Nat → Array Bool → Act → Prop
  | 0, q, listed, a => L q listed a
  | f + 1, q, listed, a => Region.ready md ops listed ≠ [] ∧ ∀ i ∈ Region.ready md ops listed, i < n ∧ ∃ o, ops[i]? = some o ∧
      ((i = m ∧ ∀ p, HeadX P md ops W lt n m L f (some p) (listed.setIfInBounds i true) (a.put o.dst (.pointer (some ⟨p, 0, none⟩)))) ∨
       (i ≠ m ∧ ∃ v, YieldsX P ops W lt o v a ∧ HeadX P md ops W lt n m L f q (listed.setIfInBounds i true) (a.put o.dst v)))
theorem HeadX.any {n m g : Nat} {L : Option Nat → Array Bool → Act → Prop} {Q : Exit → Act → World → Prop} (hA : ∀ o, ops[m]? = some o → MakesX P ops z T o)
    (hL : ∀ q listed a w, InvX W lt z T q w → L q listed a → wpAny P md ops Q g listed a w) :
    ∀ (f : Nat) (q : Option Nat) (listed : Array Bool) (a : Act) (w : World), InvX W lt z T q w → HeadX P md ops W lt n m L f q listed a → wpAny P md ops Q (f + g) listed a w := by
  intro f
  induction f with
  | zero => intro q listed a w hw h; rw [Nat.zero_add]; exact hL _ _ _ _ hw h
  | succ f ih =>
    intro q listed a w hw h
    rw [show f + 1 + g = (f + g) + 1 by omega]
    refine ⟨fun h0 => absurd h0 h.1, fun i hi => ?_⟩
    obtain ⟨_, o, ho, h⟩ := h.2 i hi
    rcases h with ⟨rfl, h⟩ | ⟨_, v, hy, h⟩
    · unfold wpOp
      simp only [ho]
      rw [if_pos (hA o ho a w).1]
      exact .inl ((hA o ho a w).2 _ _ (ih (some w.heap.size) _ _ _ (hw.heap.alloc _ _) (h _)))
    · have hh : Heap W (preX z T q ++ lt) w := hw
      refine wpOp_of_qOp (C := fun w' => ∃ d, w' = hh.any d) (hh.any_of hh) (fun a' w' hw' ha' => ?_) ((hy _ w hh).qOp ho (K := fun a' => a' = a.put o.dst v) rfl)
      obtain ⟨d, rfl⟩ := hw'
      subst ha'
      exact ih q _ _ _ (hh.any_heap d) h
theorem HeadX.first {n m i : Nat} {oi : Oper} {v : Value} {L : Option Nat → Array Bool → Act → Prop} (hi : ops[i]? = some oi) (hsel : ∀ (j : Nat) (o : Oper) cs b, ops[j]? = some o → o.op ≠ .select cs b)
    (hs : Region.sinkB md ops n = true) (hc : Region.chainB md ops n = true) (hn : n < ops.size) (hin : i < n) (him : i ≠ m) (hdone : ∀ q listed a, L q listed a → ∀ j ∈ Region.ready md ops listed, n ≤ j) :
    ∀ (f : Nat) (q : Option Nat) (listed : Array Bool) (a : Act), HeadInv md ops n listed →
      (∀ j oj, ops[j]? = some oj → j ≠ i → listed.getD j true = false → (∀ e ∈ oj.after, Region.binds md e = true → e.on ≠ i) → oi.apart ops oj = true) →
      i ∈ Region.ready md ops listed → YieldsX P ops W lt oi v a → HeadX P md ops W lt n m L f q (listed.setIfInBounds i true) (a.put oi.dst v) → HeadX P md ops W lt n m L (f + 1) q listed a := by
  intro f
  induction f with
  | zero =>
    intro q listed a inv _ hr hy H
    refine ⟨fun h => by rw [h] at hr; simp at hr, fun j hj => ?_⟩
    have hjn : j < n := Nat.lt_of_not_le fun h => tail_waits hs hc hn inv _ i rfl hin (mem_ready.1 hr).1 j h hj
    refine ⟨hjn, ?_⟩
    by_cases e : j = i
    · subst e; exact ⟨oi, hi, .inr ⟨him, v, hy, H⟩⟩
    · have := hdone _ _ _ H j (ready_mono hj e)
      omega
  | succ f ih =>
    intro q listed a inv hfree hr hy H
    have hun := (mem_ready.1 hr).1
    refine ⟨fun h => by rw [h] at hr; simp at hr, fun j hj => ?_⟩
    have hjn : j < n := Nat.lt_of_not_le fun h => tail_waits hs hc hn inv _ i rfl hin hun j h hj
    refine ⟨hjn, ?_⟩
    by_cases e : j = i
    · subst e; exact ⟨oi, hi, .inr ⟨him, v, hy, H⟩⟩
    · obtain ⟨hjun, oj, hoj, hall⟩ := mem_ready.1 hj
      have hnot : ∀ e ∈ oj.after, Region.binds md e = true → e.on ≠ i := fun e he hb heq => by
        have := hall e he hb
        rw [heq, getD_both hun] at this
        cases this
      obtain ⟨h1, h2, h3⟩ := Oper.apart_spec (hfree j oj hoj e hjun hnot)
      have hsi := fun cs b => hsel i oi cs b hi
      have hsj := fun cs b => hsel j oj cs b hoj
      have keep : ∀ u, YieldsX P ops W lt oi v (a.put oj.dst u) := fun u => hy.of_same (execOp_put oi hsi a oj.dst u h3) (wanted_put oi a oj.dst u h3)
      have hfree' : ∀ k ok, ops[k]? = some ok → k ≠ i → (listed.setIfInBounds j true).getD k true = false →
          (∀ e ∈ ok.after, Region.binds md e = true → e.on ≠ i) → oi.apart ops ok = true := fun k ok hk hki hun hno => by
        refine hfree k ok hk hki ?_ hno
        by_cases hjk : j = k
        · subst hjk; exact hjun
        · rw [getD_set_ne true hjk] at hun; exact hun
      obtain ⟨_, o', ho', h⟩ := H.2 j (ready_mono hj e)
      obtain rfl : o' = oj := Option.some.inj (ho'.symm.trans hoj)
      refine ⟨o', hoj, ?_⟩
      rcases h with ⟨rfl, h⟩ | ⟨hm, u, hu, h⟩
      · refine .inl ⟨rfl, fun p => ih _ _ _ (inv.set hj hjn) hfree' (ready_mono hr (Ne.symm e)) (keep _) ?_⟩
        rw [Array.setIfInBounds_comm _ _ e, ← Act.put_comm a v _ h2]
        exact h p
      · refine .inr ⟨hm, u, hu.of_same (execOp_put o' hsj a oi.dst v h1).symm (wanted_put o' a oi.dst v h1).symm, ih _ _ _ (inv.set hj hjn) hfree' (ready_mono hr (Ne.symm e)) (keep _) ?_⟩
        rw [Array.setIfInBounds_comm _ _ e, ← Act.put_comm a v _ h2]
        exact h
theorem HeadX.last {n m : Nat} {om : Oper} {L : Option Nat → Array Bool → Act → Prop} (hom : ops[m]? = some om)
    (hs : Region.sinkB md ops n = true) (hc : Region.chainB md ops n = true) (hn : n < ops.size) (hin : m < n) (hdone : ∀ q listed a, L q listed a → ∀ j ∈ Region.ready md ops listed, n ≤ j)
    (q : Option Nat) (listed : Array Bool) (a : Act) (inv : HeadInv md ops n listed) (hr : m ∈ Region.ready md ops listed) (H : ∀ p, L (some p) (listed.setIfInBounds m true) (a.put om.dst (.pointer (some ⟨p, 0, none⟩)))) : HeadX P md ops W lt n m L 1 q listed a := by
  refine ⟨fun h => by rw [h] at hr; simp at hr, fun j hj => ?_⟩
  have hjn : j < n := Nat.lt_of_not_le fun h => tail_waits hs hc hn inv _ m rfl hin (mem_ready.1 hr).1 j h hj
  refine ⟨hjn, ?_⟩
  by_cases e : j = m
  · subst e; exact ⟨om, hom, .inl ⟨rfl, H⟩⟩
  · have := hdone _ _ _ (H 0) j (ready_mono hj e)
    omega
/-- The walk in the order of the text, the making last. -/
def wpX (P : Program) (ops : Array Oper) (W : World) (lt : List Thing) (t : Option Tmp) (K : Nat → Act → Prop) : List Oper → Act → Prop
  | [], a => ∀ p, K p (a.put t (.pointer (some ⟨p, 0, none⟩)))
  | o :: l, a => ∃ v, YieldsX P ops W lt o v a ∧ wpX P ops W lt t K l (a.put o.dst v)
theorem HeadX.lex {n m g : Nat} {om : Oper} {K : Nat → Act → Prop} (hom : ops[m]? = some om) (hnm : n = m + 1) (hsel : Region.noSelect ops = true) (hs : Region.sinkB md ops n = true) (hc : Region.chainB md ops n = true) (hn : n < ops.size) :
    ∀ (l : List Oper) (k : Nat) (listed : Array Bool) (a : Act), (∀ j, j < l.length → l[j]? = ops[k + j]?) → k + l.length = m → HeadInv md ops n listed →
    Region.lexHead md ops g (l.length + 1) k listed = true → wpX P ops W lt om.dst K l a → HeadX P md ops W lt n m (fun q listed' a' => Region.seqB md ops g n listed' = true ∧ ∃ p, q = some p ∧ K p a') (l.length + 1) none listed a := by
  intro l
  induction l with
  | nil =>
    intro k listed a _ hk inv hB h
    obtain rfl : k = m := by simpa using hk
    subst hnm
    simp only [List.length_nil, Region.lexHead, Bool.and_eq_true] at hB
    exact HeadX.last hom hs hc hn (by omega) (fun _ _ _ hL => seqB_ready hL.1) none listed a inv (by simpa using hB.1.1) fun p => ⟨by simpa [Region.lexHead] using hB.2, p, rfl, h p⟩
  | cons o l ih =>
    intro k listed a hl hk inv hB h
    have h0 : ops[k]? = some o := by simpa using (hl 0 (by simp)).symm
    simp only [List.length_cons] at hk
    rw [List.length_cons, Region.lexHead] at hB
    simp only [Bool.and_eq_true] at hB
    have hr : k ∈ Region.ready md ops listed := by simpa using hB.1.1
    obtain ⟨v, hy, hK⟩ := h
    exact HeadX.first h0 (Region.noSelect_spec hsel) hs hc hn (by omega) (by omega) (fun _ _ _ hL => seqB_ready hL.1) (l.length + 1) none listed a inv (Region.free_spec h0 hB.1.2) hr hy
      (ih (k + 1) _ _ (fun j hj => by have := hl (j + 1) (by simp; omega); simpa [Nat.add_assoc, Nat.add_comm 1 j] using this) (by omega) (inv.set hr (by omega)) hB.2 hK)
theorem wp_region_X_make {id m : Nat} {Q : Exit → Act → World → Prop} {a : Act} {w : World} {l : List Oper} {om : Oper} (HH : Heap W lt w) (hm : P.follows .mixedOrders = true) (hB : Region.lexTailB .any l.toArray (m + 1) = true) (hom : l[m]? = some om) (hA : MakesX P l.toArray z T om)
    (h : wpX P l.toArray W lt om.dst (fun p a' => ∀ w', Heap W (Cel p z T :: lt) w' → wpList P l.toArray Q (l.drop (m + 1)) a' w') (l.take m) a) : (Code.region id l.toArray true).wp P Q a w := by
  simp only [Region.lexTailB, Bool.and_eq_true, decide_eq_true_eq] at hB
  obtain ⟨⟨⟨⟨hsel, hn⟩, hs⟩, hc⟩, hlex⟩ := hB
  have hn' : m + 1 < l.length := by simpa using hn
  have htl : (l.take m).length = m := by simp; omega
  have hdl : (l.drop (m + 1)).length = l.toArray.size - (m + 1) := by simp
  have H := HeadX.lex (md := .any) (g := l.toArray.size - (m + 1)) (by simpa using hom) rfl hsel hs hc hn (l.take m) 0 (Array.replicate l.toArray.size false) a (fun j hj => by
    have hj' : j < m := by rw [htl] at hj; exact hj
    simp [hj']) (by simpa using htl) ⟨by simp, fun j oj _ hl => (by rw [getD_replicate_false] at hl; cases hl), fun t _ ht => getD_in (by simpa using ht) (getD_replicate_false _ _)⟩ (by rw [htl]; exact hlex) h
  refine wp_region_any hm ?_
  have := HeadX.any (Q := Q) (z := z) (T := T) (g := l.toArray.size - (m + 1)) (fun o ho => by
      obtain rfl : o = om := Option.some.inj (ho.symm.trans (by simpa using hom))
      exact hA) (fun q listed a' w' hw' hL => by
    obtain ⟨h1, p, rfl, h2⟩ := hL
    have := wpAny_of_seq (md := .any) (Q' := Q) (l.drop (m + 1)) (m + 1) listed a' w' (fun j => by simp [List.getElem?_drop]) (by rw [hdl]; exact h1) (h2 w' hw')
    rwa [hdl] at this) _ none _ _ _ (show InvX W lt z T none _ from HH.drew) H
  rwa [htl, show m + 1 + (l.toArray.size - (m + 1)) = l.toArray.size by omega] at this
theorem wpX_step {t : Option Tmp} {K : Nat → Act → Prop} {o : Oper} {l : List Oper} {a : Act} {s : Nat} {v : Value} (hd : o.dst = some s) (hlt : s < a.tmps.size)
    (h1 : ∀ (pre : List Thing) (w0 : World) (H0 : Heap W (pre ++ lt) w0), wpQuiet P ops (fun w' => ∃ d, w' = H0.any d) (fun a' => a'.tmps.getD s undef = v) [o] a) (h2 : wpX P ops W lt t K l (a.put o.dst v)) : wpX P ops W lt t K (o :: l) a := by
  have inj : ∀ u, (a.put o.dst u).tmps.getD s undef = v → u = v := fun u h => by
    rw [hd] at h
    simp [Act.put, hlt] at h
    exact h
  refine ⟨v, fun pre w0 H0 => ?_, h2⟩
  have h := h1 pre w0 H0
  unfold wpQuiet at h
  by_cases hw : Region.wanted o (yielded ops a.tmps) = true
  · rw [if_pos hw] at h
    obtain ⟨u, hu, hk⟩ := h
    obtain rfl := inj u hk
    exact .inl ⟨hw, hu⟩
  · rw [if_neg hw] at h
    exact .inr ⟨by simpa using hw, (inj undef h).symm⟩
end
theorem makesX_row {ops : Array Oper} {T n : Nat} {z : Array Value} (RT : RowTy T n z) {dst : Option Tmp} {ty : TypeId} {pos : String} {after : Array Edge} (hw : ∀ y, Region.wanted ⟨dst, .alloc T, ty, pos, after, none⟩ y = true) : MakesX Try.prog ops z T ⟨dst, .alloc T, ty, pos, after, none⟩ := by
  refine fun a w => ⟨hw _, fun K Q h => ?_⟩
  have hz := RT.zero
  cases hi : Try.prog.info? T with
  | none => rw [hi] at hz; cases hz
  | some i =>
    rw [hi] at hz
    have hz' : i.zero = some (.agg z) := hz
    unfold Oper.wp execOp
    simp [Instr.alloc, zeroValue, typeInfo, hi, hz', newVar, newRow, Value.cells, go_sem]
    exact h
end Go.Proofs.Ytjipelhcgglhhaa

/- countinghouseref27: Resume, calls, Call, Tick. -/
namespace Go.Proofs.Ytjipelhcgglhhaa
open Go.RowKit
set_option linter.unusedSimpArgs false
set_option linter.unusedVariables false
def rcl (id : Int) (n : Int) (to : Int) (num : Int) (op : Bool) (steps : Value) (waits : Int) : Array Value := #[.int .u8 id, .int .i64 n, .int .i64 to, .int .u64 num, .bool op, steps, .int .i64 waits]
section
variable (id : Int) (n : Int) (to : Int) (num : Int) (op : Bool) (steps : Value) (waits : Int)
theorem rcl_sz : (rcl id n to num op steps waits).size = 7 := rfl
theorem rcl_g0 : (rcl id n to num op steps waits)[0]? = some (.int .u8 id) := rfl
theorem rcl_s0 (v : Int) : (rcl id n to num op steps waits).setIfInBounds 0 (.int .u8 v) = rcl v n to num op steps waits := rfl
theorem rcl_g1 : (rcl id n to num op steps waits)[1]? = some (.int .i64 n) := rfl
theorem rcl_s1 (v : Int) : (rcl id n to num op steps waits).setIfInBounds 1 (.int .i64 v) = rcl id v to num op steps waits := rfl
theorem rcl_g2 : (rcl id n to num op steps waits)[2]? = some (.int .i64 to) := rfl
theorem rcl_s2 (v : Int) : (rcl id n to num op steps waits).setIfInBounds 2 (.int .i64 v) = rcl id n v num op steps waits := rfl
theorem rcl_g3 : (rcl id n to num op steps waits)[3]? = some (.int .u64 num) := rfl
theorem rcl_s3 (v : Int) : (rcl id n to num op steps waits).setIfInBounds 3 (.int .u64 v) = rcl id n to v op steps waits := rfl
theorem rcl_g4 : (rcl id n to num op steps waits)[4]? = some (.bool op) := rfl
theorem rcl_s4 (v : Bool) : (rcl id n to num op steps waits).setIfInBounds 4 (.bool v) = rcl id n to num v steps waits := rfl
theorem rcl_g5 : (rcl id n to num op steps waits)[5]? = some (steps) := rfl
theorem rcl_s5 (v : Value) : (rcl id n to num op steps waits).setIfInBounds 5 (v) = rcl id n to num op v waits := rfl
theorem rcl_g6 : (rcl id n to num op steps waits)[6]? = some (.int .i64 waits) := rfl
theorem rcl_s6 (v : Int) : (rcl id n to num op steps waits).setIfInBounds 6 (.int .i64 v) = rcl id n to num op steps v := rfl
end
def rlet (kind : Int) (frm : Int) (lto : Int) (term : Int) (index : Int) (mark : Int) (commit : Int) (yes : Bool) (entries : Value) (data : Value) (cid : Int) (cnum : Int) (steps : Value) (err : Int) (rerr : Int) (rat : Int) (got : Value) : Array Value := #[.int .i64 kind, .int .u8 frm, .int .u8 lto, .int .u64 term, .int .u64 index, .int .u64 mark, .int .u64 commit, .bool yes, entries, data, .int .u8 cid, .int .u64 cnum, steps, .int .i64 err, .int .i64 rerr, .int .i64 rat, got]
section
variable (kind : Int) (frm : Int) (lto : Int) (term : Int) (index : Int) (mark : Int) (commit : Int) (yes : Bool) (entries : Value) (data : Value) (cid : Int) (cnum : Int) (steps : Value) (err : Int) (rerr : Int) (rat : Int) (got : Value)
theorem rlet_sz : (rlet kind frm lto term index mark commit yes entries data cid cnum steps err rerr rat got).size = 17 := rfl
theorem rlet_g0 : (rlet kind frm lto term index mark commit yes entries data cid cnum steps err rerr rat got)[0]? = some (.int .i64 kind) := rfl
theorem rlet_g1 : (rlet kind frm lto term index mark commit yes entries data cid cnum steps err rerr rat got)[1]? = some (.int .u8 frm) := rfl
theorem rlet_g2 : (rlet kind frm lto term index mark commit yes entries data cid cnum steps err rerr rat got)[2]? = some (.int .u8 lto) := rfl
theorem rlet_g3 : (rlet kind frm lto term index mark commit yes entries data cid cnum steps err rerr rat got)[3]? = some (.int .u64 term) := rfl
theorem rlet_g4 : (rlet kind frm lto term index mark commit yes entries data cid cnum steps err rerr rat got)[4]? = some (.int .u64 index) := rfl
theorem rlet_g5 : (rlet kind frm lto term index mark commit yes entries data cid cnum steps err rerr rat got)[5]? = some (.int .u64 mark) := rfl
theorem rlet_g6 : (rlet kind frm lto term index mark commit yes entries data cid cnum steps err rerr rat got)[6]? = some (.int .u64 commit) := rfl
theorem rlet_g7 : (rlet kind frm lto term index mark commit yes entries data cid cnum steps err rerr rat got)[7]? = some (.bool yes) := rfl
theorem rlet_g8 : (rlet kind frm lto term index mark commit yes entries data cid cnum steps err rerr rat got)[8]? = some (entries) := rfl
theorem rlet_g9 : (rlet kind frm lto term index mark commit yes entries data cid cnum steps err rerr rat got)[9]? = some (data) := rfl
theorem rlet_g10 : (rlet kind frm lto term index mark commit yes entries data cid cnum steps err rerr rat got)[10]? = some (.int .u8 cid) := rfl
theorem rlet_g11 : (rlet kind frm lto term index mark commit yes entries data cid cnum steps err rerr rat got)[11]? = some (.int .u64 cnum) := rfl
theorem rlet_g12 : (rlet kind frm lto term index mark commit yes entries data cid cnum steps err rerr rat got)[12]? = some (steps) := rfl
theorem rlet_g13 : (rlet kind frm lto term index mark commit yes entries data cid cnum steps err rerr rat got)[13]? = some (.int .i64 err) := rfl
theorem rlet_g14 : (rlet kind frm lto term index mark commit yes entries data cid cnum steps err rerr rat got)[14]? = some (.int .i64 rerr) := rfl
theorem rlet_g15 : (rlet kind frm lto term index mark commit yes entries data cid cnum steps err rerr rat got)[15]? = some (.int .i64 rat) := rfl
theorem rlet_g16 : (rlet kind frm lto term index mark commit yes entries data cid cnum steps err rerr rat got)[16]? = some (got) := rfl
end
attribute [local go_sem high] rcl_sz rlet_sz
theorem row_rlet : RowTy 76 17 (rlet 0 0 0 0 0 0 0 false (.slice none 0 0) (.slice none 0 0) 0 0 (.slice none 0 0) 0 0 0 (.slice none 0 0)) := ⟨⟨_, Try.underlying76, rfl⟩, by kernel_rfl, by kernel_rfl⟩
theorem row_call : RowTy 30 3 #[.int .u8 0, .int .u64 0, .slice none 0 0] := ⟨⟨_, Try.underlying30, rfl⟩, by kernel_rfl, by kernel_rfl⟩
theorem bs_rlet : Try.prog.underlying 65 = some (.slice 76) ∧ (Try.prog.info? 76).map (fun i => (i.size, i.zero.map Value.cells)) = some ((rlet 0 0 0 0 0 0 0 false (.slice none 0 0) (.slice none 0 0) 0 0 (.slice none 0 0) 0 0 0 (.slice none 0 0)).size, some (rlet 0 0 0 0 0 0 0 false (.slice none 0 0) (.slice none 0 0) 0 0 (.slice none 0 0) 0 0 0 (.slice none 0 0))) ∧ 0 < (rlet 0 0 0 0 0 0 0 false (.slice none 0 0) (.slice none 0 0) 0 0 (.slice none 0 0) 0 0 0 (.slice none 0 0)).size ∧ (rlet 0 0 0 0 0 0 0 false (.slice none 0 0) (.slice none 0 0) 0 0 (.slice none 0 0) 0 0 0 (.slice none 0 0)).size ≤ 65536 := ⟨Try.underlying65, by kernel_rfl, by decide, by decide⟩
theorem rlet_bs (k f t c m : Int) (s : Value) : (rlet k f t 0 0 0 0 false (.slice none 0 0) (.slice none 0 0) c m s 0 0 0 (.slice none 0 0)).size = (rlet 0 0 0 0 0 0 0 false (.slice none 0 0) (.slice none 0 0) 0 0 (.slice none 0 0) 0 0 0 (.slice none 0 0)).size := rfl
theorem rlet_all (k f t c m : Int) (s : Value) : (rlet k f t 0 0 0 0 false (.slice none 0 0) (.slice none 0 0) c m s 0 0 0 (.slice none 0 0)).extract 0 (0 + 17) = rlet k f t 0 0 0 0 false (.slice none 0 0) (.slice none 0 0) c m s 0 0 0 (.slice none 0 0) := by simp [rlet]
theorem rlet_op (k f t : Int) : Cells 17 #[.int .i64 k, .int .u8 f, .int .u8 t, .int .u64 0, .int .u64 0, .int .u64 0, .int .u64 0, .bool false, .slice none 0 0, .slice none 0 0, .int .u8 0, .int .u64 0, .slice none 0 0, .int .i64 0, .int .i64 0, .int .i64 0, .slice none 0 0] := by
  refine ⟨rfl, ?_⟩
  simp [Value.oneCell']
theorem rlet_put (k f t : Int) : splice (rlet 0 0 0 0 0 0 0 false (.slice none 0 0) (.slice none 0 0) 0 0 (.slice none 0 0) 0 0 0 (.slice none 0 0)) 0 #[.int .i64 k, .int .u8 f, .int .u8 t, .int .u64 0, .int .u64 0, .int .u64 0, .int .u64 0, .bool false, .slice none 0 0, .slice none 0 0, .int .u8 0, .int .u64 0, .slice none 0 0, .int .i64 0, .int .i64 0, .int .i64 0, .slice none 0 0] = rlet k f t 0 0 0 0 false (.slice none 0 0) (.slice none 0 0) 0 0 (.slice none 0 0) 0 0 0 (.slice none 0 0) := splice_all rfl
theorem rcl_cmd (id n to num : Int) (op : Bool) (steps : Value) (waits : Int) : (rcl id n to num op steps waits).extract 5 (5 + 1) = #[steps] := by simp [rcl]
theorem cmd_cells1 (a : Option Addr) (n c : Nat) : Cells 1 #[.slice a n c] := ⟨rfl, by simp [Value.oneCell']⟩
theorem call_cells (c m : Int) (a : Option Addr) (n0 c0 : Nat) : Cells 3 #[.int .u8 c, .int .u64 m, .slice a n0 c0] := ⟨rfl, by simp [Value.oneCell']⟩
theorem rlet_call (k f t c m : Int) (s : Value) : splice (rlet k f t 0 0 0 0 false (.slice none 0 0) (.slice none 0 0) 0 0 (.slice none 0 0) 0 0 0 (.slice none 0 0)) 10 #[.int .u8 c, .int .u64 m, s] = rlet k f t 0 0 0 0 false (.slice none 0 0) (.slice none 0 0) c m s 0 0 0 (.slice none 0 0) := by simp [splice, rlet]
theorem rcl_put (id n to num waits : Int) (op : Bool) (s t : Value) : splice (rcl id n to num op s waits) 5 #[t] = rcl id n to num op t waits := by simp [splice, rcl]
/-- A client of the document's, in memory. -/
abbrev RCl (p : Nat) (id n to num : Int) (op : Bool) (steps : Value) (waits : Int) : Thing := Cel p (rcl id n to num op steps waits) 72
section
variable {W w : World} {l : List Thing}
set_option maxRecDepth 100000
set_option maxHeartbeats 1000000
theorem rresume_H (id n num : Int) (H : Heap W l w) (h0 : 1 ≤ id) (h1 : id ≤ 8) :
    Calls Try.prog 16 #[.int .i64 id, .int .i64 n, .int .u64 num] w fun e w' => ∃ p, e = .returned (.pointer (some ⟨p, 0, none⟩)) ∧ Heap W (RCl p id n 1 num false (.slice none 0 0) 0 :: l) w' := by
  have hw : IntKind.u8.wrap id = id := IntWalk.u8_in _ (by omega)
  clear h0 h1
  go_enter Try.func16, Try.ntmps16
  go_wp2_with (first | go_skip | ((with_reducible show wpList _ _ _ (_ :: _) _ _); (with_reducible apply wpl_boxRH); (· rfl); (· rfl); (· exact H); (clear H; intro px _ H); (simp only [Act.put, List.setIfInBounds_toArray, List.set_cons_zero, List.set_cons_succ])))
  go_ret
  exact ⟨px, rfl, H⟩
theorem rcalls_H (p : Nat) (id n to num waits : Int) (op : Bool) (a : Option Addr) (m c : Nat) (H : Heap W (RCl p id n to num op (.slice a m c) waits :: l) w) (hid : 0 ≤ id ∧ id ≤ 8) (ht : 0 ≤ to ∧ to ≤ 255) :
    Calls Try.prog 33 #[.pointer (some ⟨p, 0, none⟩)] w fun e w' => ∃ q, e = .returned (.slice (some ⟨q, 0, none⟩) 1 1) ∧
      Heap W (Cel q (rlet 6 (100 + id) to 0 0 0 0 false (.slice none 0 0) (.slice none 0 0) id num (.slice a m c) 0 0 0 (.slice none 0 0)) 76 :: RCl p id n to num op (.slice a m c) 0 :: l) w' := by
  have hw : IntKind.u8.wrap (100 + id) = 100 + id := IntWalk.u8_in _ (by omega)
  have hw2 : IntKind.u8.wrap to = to := IntWalk.u8_in _ (by omega)
  clear hid ht
  go_enter Try.func33, Try.ntmps33
  go_wp2_with (first | go_skip | (first | ((with_reducible show wpList _ _ _ (_ :: _) _ _); (with_reducible apply wpl_storeIH); (· exact cell_i64); (· rfl); (· rfl); (· rfl); (· exact H); (· (repeat (first | (with_reducible exact List.mem_cons_self) | with_reducible apply List.mem_cons_of_mem))); (· (simp only [rcl_sz, Nat.reduceLT]; done)); (· (with_reducible first | exact rcl_s0 .. | exact rcl_s1 .. | exact rcl_s2 .. | exact rcl_s3 .. | exact rcl_s4 .. | exact rcl_s5 .. | exact rcl_s6 ..)); (· (repeat (first | (with_reducible exact Repl.here) | with_reducible apply Repl.there))); (clear H; intro _ H); (simp only [Act.put, List.setIfInBounds_toArray, List.set_cons_zero, List.set_cons_succ])) | ((with_reducible show wpList _ _ _ (_ :: _) _ _); (with_reducible apply wpl_storeBH); (· exact cell_i64); (· rfl); (· rfl); (· rfl); (· exact H); (· (repeat (first | (with_reducible exact List.mem_cons_self) | with_reducible apply List.mem_cons_of_mem))); (· (simp only [rcl_sz, Nat.reduceLT]; done)); (· (with_reducible first | exact rcl_s0 .. | exact rcl_s1 .. | exact rcl_s2 .. | exact rcl_s3 .. | exact rcl_s4 .. | exact rcl_s5 .. | exact rcl_s6 ..)); (· (repeat (first | (with_reducible exact Repl.here) | with_reducible apply Repl.there))); (clear H; intro _ H); (simp only [Act.put, List.setIfInBounds_toArray, List.set_cons_zero, List.set_cons_succ])) | ((with_reducible show wpList _ _ _ (_ :: _) _ _); (with_reducible apply wpl_storeSH); (· exact cell_i64); (· rfl); (· rfl); (· rfl); (· exact H); (· (repeat (first | (with_reducible exact List.mem_cons_self) | with_reducible apply List.mem_cons_of_mem))); (· (simp only [rcl_sz, Nat.reduceLT]; done)); (· (with_reducible first | exact rcl_s0 .. | exact rcl_s1 .. | exact rcl_s2 .. | exact rcl_s3 .. | exact rcl_s4 .. | exact rcl_s5 .. | exact rcl_s6 ..)); (· (repeat (first | (with_reducible exact Repl.here) | with_reducible apply Repl.there))); (clear H; intro _ H); (simp only [Act.put, List.setIfInBounds_toArray, List.set_cons_zero, List.set_cons_succ])) | ((with_reducible show wpList _ _ _ (_ :: _) _ _); (with_reducible apply wpl_storePH); (· exact cell_i64); (· rfl); (· rfl); (· rfl); (· exact H); (· (repeat (first | (with_reducible exact List.mem_cons_self) | with_reducible apply List.mem_cons_of_mem))); (· (simp only [rcl_sz, Nat.reduceLT]; done)); (· (with_reducible first | exact rcl_s0 .. | exact rcl_s1 .. | exact rcl_s2 .. | exact rcl_s3 .. | exact rcl_s4 .. | exact rcl_s5 .. | exact rcl_s6 ..)); (· (repeat (first | (with_reducible exact Repl.here) | with_reducible apply Repl.there))); (clear H; intro _ H); (simp only [Act.put, List.setIfInBounds_toArray, List.set_cons_zero, List.set_cons_succ]))))
  refine wp_region_X_make (m := 11) H (by kernel_rfl) (by kernel_rfl) rfl (makesX_row row_rlet (fun _ => rfl)) ?_
  simp only [List.take_succ_cons, List.take_zero, List.drop_succ_cons, List.drop_zero]
  iterate 11 (apply wpX_step; (· rfl); (· exact Nat.le_of_ble_eq_true rfl); (· intro pre w0 H0; (first | go_big_quiet_skip | ((with_reducible apply wpQ_loadCH); (· first | exact cell_b8 | exact cell_i64); (· rfl); (· rfl); (· (refine List.mem_append_right _ ?_); (repeat (first | (with_reducible exact List.mem_cons_self) | with_reducible apply List.mem_cons_of_mem))); (· (with_reducible first | exact rcl_g0 .. | exact rcl_g1 .. | exact rcl_g2 .. | exact rcl_g3 .. | exact rcl_g4 .. | exact rcl_g5 .. | exact rcl_g6 ..)); (simp only [Act.put, List.setIfInBounds_toArray, List.set_cons_zero, List.set_cons_succ])) | go_big_quiet_step (fail)); (refine wpQuiet_nil ?_); (simp only [Array.getD_eq_getD_getElem?, List.getElem?_toArray, List.getElem?_cons_succ, List.getElem?_cons_zero, Option.getD_some]; rfl)); (simp only [Act.put, List.setIfInBounds_toArray, List.set_cons_zero, List.set_cons_succ]))
  clear H
  intro pr _ H
  go_wp2_with (first | go_skip | ((with_reducible show wpList _ _ _ (_ :: _) _ _); (with_reducible apply wpl_storeRH row_rlet); (· rfl); (· rfl); (· rfl); (· with_reducible exact rlet_op ..); (· exact H); (· (repeat (first | (with_reducible exact List.mem_cons_self) | with_reducible apply List.mem_cons_of_mem))); (· (simp only [rlet_sz, Nat.reduceAdd, Nat.reduceLeDiff, Nat.le_refl]; done)); (· with_reducible exact rlet_put ..); (· (repeat (first | (with_reducible exact Repl.here) | with_reducible apply Repl.there))); (clear H; intro _ H); (simp only [Act.put, List.setIfInBounds_toArray, List.set_cons_zero, List.set_cons_succ])))
  refine wp_region_H_tail 14 H (by kernel_rfl) (by kernel_rfl) ?_
  simp only [List.take_succ_cons, List.take_zero, List.drop_succ_cons, List.drop_zero]
  repeat (first | go_big_quiet_skip | (first | ((with_reducible apply wpQ_loadCH); (· first | exact cell_b8 | exact cell_u64); (· rfl); (· rfl); (· (repeat (first | (with_reducible exact List.mem_cons_self) | with_reducible apply List.mem_cons_of_mem))); (· (with_reducible first | exact rcl_g0 .. | exact rcl_g1 .. | exact rcl_g2 .. | exact rcl_g3 .. | exact rcl_g4 .. | exact rcl_g5 .. | exact rcl_g6 ..)); (simp only [Act.put, List.setIfInBounds_toArray, List.set_cons_zero, List.set_cons_succ])) | ((with_reducible apply wpQ_loadRH row_cmd); (· rfl); (· rfl); (· (repeat (first | (with_reducible exact List.mem_cons_self) | with_reducible apply List.mem_cons_of_mem))); (· (simp only [rcl_sz, Nat.reduceAdd, Nat.reduceLeDiff, Nat.le_refl]; done)); (· with_reducible exact rcl_cmd ..); (simp only [Act.put, List.setIfInBounds_toArray, List.set_cons_zero, List.set_cons_succ]))) | go_big_quiet_step (fail))
  refine wpQuiet_nil ?_
  clear H
  intro _ H
  go_wp2_with (first | go_skip | ((with_reducible show wpList _ _ _ (_ :: _) _ _); (with_reducible apply wpl_storeRH row_call); (· rfl); (· rfl); (· rfl); (· with_reducible exact call_cells ..); (· exact H); (· (repeat (first | (with_reducible exact List.mem_cons_self) | with_reducible apply List.mem_cons_of_mem))); (· (simp only [rlet_sz, Nat.reduceAdd, Nat.reduceLeDiff, Nat.le_refl]; done)); (· with_reducible exact rlet_call ..); (· (repeat (first | (with_reducible exact Repl.here) | with_reducible apply Repl.there))); (clear H; intro _ H); (simp only [Act.put, List.setIfInBounds_toArray, List.set_cons_zero, List.set_cons_succ])) | ((with_reducible show wpList _ _ _ (_ :: _) _ _); (with_reducible apply wpl_loadRH row_rlet); (· rfl); (· rfl); (· exact H); (· (repeat (first | (with_reducible exact List.mem_cons_self) | with_reducible apply List.mem_cons_of_mem))); (· (simp only [rlet_sz, Nat.reduceAdd, Nat.reduceLeDiff, Nat.le_refl]; done)); (· with_reducible exact rlet_all ..); (simp only [Act.put, List.setIfInBounds_toArray, List.set_cons_zero, List.set_cons_succ])) | ((with_reducible show wpList _ _ _ (_ :: _) _ _); (with_reducible apply wpl_bsRH); (· rfl); (· rfl); (· exact bs_rlet); (· exact rlet_bs ..); (· exact H); (clear H; intro q1 _ H); (simp only [Act.put, List.setIfInBounds_toArray, List.set_cons_zero, List.set_cons_succ])))
  go_ret
  exact ⟨q1, rfl, H.drop (.there .here)⟩
theorem rcall_busy (p : Nat) (id n to num waits : Int) (s : Value) (x : Value) (H : Heap W (RCl p id n to num true s waits :: l) w) :
    Calls Try.prog 18 #[.pointer (some ⟨p, 0, none⟩), .agg #[x]] w fun e w' => e = .returned (.tuple #[.slice none 0 0, .int .i64 17]) ∧ Heap W (RCl p id n to num true s waits :: l) w' := by
  go_enter Try.func18, Try.ntmps18
  go_wp2_with (first | go_skip | ((with_reducible show wpList _ _ _ (_ :: _) _ _); (with_reducible apply wpl_boxRH); (· rfl); (· rfl); (· exact H); (clear H; intro px _ H); (simp only [Act.put, List.setIfInBounds_toArray, List.set_cons_zero, List.set_cons_succ])) | ((with_reducible show wpList _ _ _ (_ :: _) _ _); (with_reducible apply wpl_loadCH); (· exact cell_bool); (· rfl); (· rfl); (· exact H); (· (repeat (first | (with_reducible exact List.mem_cons_self) | with_reducible apply List.mem_cons_of_mem))); (· (with_reducible first | exact rcl_g0 .. | exact rcl_g1 .. | exact rcl_g2 .. | exact rcl_g3 .. | exact rcl_g4 .. | exact rcl_g5 .. | exact rcl_g6 ..)); (simp only [Act.put, List.setIfInBounds_toArray, List.set_cons_zero, List.set_cons_succ])))
  go_ret2
  exact ⟨rfl, H.tail⟩
theorem rcall_arg (p : Nat) (id n to num waits : Int) (s : Value) (a : Option Addr) (m c : Nat) (hm : m < 1 ∨ 8 < m) (hb : m ≤ 1000000) (H : Heap W (RCl p id n to num false s waits :: l) w) :
    Calls Try.prog 18 #[.pointer (some ⟨p, 0, none⟩), .agg #[.slice a m c]] w fun e w' => e = .returned (.tuple #[.slice none 0 0, .int .i64 1]) ∧ Heap W (RCl p id n to num false s waits :: l) w' := by
  by_cases h0 : m = 0
  · subst h0
    clear hm
    go_enter Try.func18, Try.ntmps18
    go_wp2_with (first | go_skip | ((with_reducible show wpList _ _ _ (_ :: _) _ _); (with_reducible apply wpl_boxRH); (· rfl); (· rfl); (· exact H); (clear H; intro px _ H); (simp only [Act.put, List.setIfInBounds_toArray, List.set_cons_zero, List.set_cons_succ]); change Heap _ (Cel px (cmd _) _ :: _) _ at H) | ((with_reducible show wpList _ _ _ (_ :: _) _ _); (with_reducible apply wpl_loadCH); (· first | exact cell_bool | exact cell_steps); (· rfl); (· rfl); (· exact H); (· (repeat (first | (with_reducible exact List.mem_cons_self) | with_reducible apply List.mem_cons_of_mem))); (· (with_reducible first | exact rcl_g0 .. | exact rcl_g1 .. | exact rcl_g2 .. | exact rcl_g3 .. | exact rcl_g4 .. | exact rcl_g5 .. | exact rcl_g6 .. | exact cmd_g0 ..)); (simp only [Act.put, List.setIfInBounds_toArray, List.set_cons_zero, List.set_cons_succ])))
    go_ret2
    exact ⟨rfl, H.tail⟩
  · have k1 : decide ((m : Int) < 1) = false := by simp; omega
    have k2 : decide (8 < (m : Int)) = true := by simp; omega
    have k3 : decide (m < 1) = false := by simp; omega
    have k4 : decide (8 < m) = true := by simp; omega
    clear hm
    go_enter Try.func18, Try.ntmps18
    go_wp2_with (first | go_skip | ((with_reducible show wpList _ _ _ (_ :: _) _ _); (with_reducible apply wpl_boxRH); (· rfl); (· rfl); (· exact H); (clear H; intro px _ H); (simp only [Act.put, List.setIfInBounds_toArray, List.set_cons_zero, List.set_cons_succ]); change Heap _ (Cel px (cmd _) _ :: _) _ at H) | ((with_reducible show wpList _ _ _ (_ :: _) _ _); (with_reducible apply wpl_loadCH); (· first | exact cell_bool | exact cell_steps); (· rfl); (· rfl); (· exact H); (· (repeat (first | (with_reducible exact List.mem_cons_self) | with_reducible apply List.mem_cons_of_mem))); (· (with_reducible first | exact rcl_g0 .. | exact rcl_g1 .. | exact rcl_g2 .. | exact rcl_g3 .. | exact rcl_g4 .. | exact rcl_g5 .. | exact rcl_g6 .. | exact cmd_g0 ..)); (simp only [Act.put, List.setIfInBounds_toArray, List.set_cons_zero, List.set_cons_succ])))
    go_ret2
    exact ⟨rfl, H.tail⟩
theorem rcall_H (p b off m c : Nat) (id n to num num' waits : Int) (s0 : Value) (L : List RowS) (H : Heap W (RCl p id n to num false s0 waits :: l) w) (h0 : 0 < m) (hm : m ≤ 8) (hl : L.length = m) (ht : 0 ≤ to ∧ to ≤ 255) (hid : 0 ≤ id ∧ id ≤ 8)
    (hnum : IntKind.u64.wrap (num + 1) = num') (R : ∀ l' w', (∀ x ∈ l, x ∈ l') → Heap W l' w' → Rd w' (some ⟨b, off, none⟩) (rowSL L)) :
    Calls Try.prog 18 #[.pointer (some ⟨p, 0, none⟩), .agg #[.slice (some ⟨b, off, none⟩) m c]] w fun e w' => ∃ q a' c', e = .returned (.tuple #[.slice (some ⟨q, 0, none⟩) 1 1, .int .i64 0]) ∧
      Heap W (Cel q (rlet 6 (100 + id) to 0 0 0 0 false (.slice none 0 0) (.slice none 0 0) id num' (.slice a' m c') 0 0 0 (.slice none 0 0)) 76 :: RCl p id n to num' true (.slice a' m c') 0 :: RowT 87 10 (.slice a' m c') m (rowSL L) :: l) w' := by
  have k1 : decide ((m : Int) < 1) = false := by simp; omega
  have k2 : decide (8 < (m : Int)) = false := by simp; omega
  have k3 : decide (m < 1) = false := by simp; omega
  have k4 : decide (8 < m) = false := by simp; omega
  have hlen : (rowSL L).length = m * 10 := by rw [rowSL_len, hl]
  have h1 : 0 + m ≤ maxLen := by unfold maxLen; omega
  have h2 : (0 + m) * 48 ≤ 140737488355328 := by omega
  have HR := Lib.hid R
  have HI := Lib.hid (And.intro hid ht)
  clear hid ht R hl
  go_enter Try.func18, Try.ntmps18
  go_wp2_with (first
    | ((with_reducible show wpList _ _ _ (_ :: _) _ _); (with_reducible apply wpl_appendA slS); (· rfl); (· rfl); (· rfl); (· rfl); (· exact H.nilRow 87 10); (· exact HR.out _ _ (fun x hx => List.mem_cons_of_mem _ (List.mem_cons_of_mem _ (List.mem_cons_of_mem _ hx))) (H.nilRow 87 10)); (· exact hlen); (· exact rowSL_ones L); (· exact h1); (· exact h2); (clear H; intro v1 _ _ H; obtain ⟨a2, c2, rfl, hc2, hm2⟩ := RowT.form0 (H.ok _ List.mem_cons_self)); (simp only [Act.put, List.setIfInBounds_toArray, List.set_cons_zero, List.set_cons_succ]))
    | go_skip
    | ((with_reducible show wpList _ _ _ (_ :: _) _ _); (with_reducible apply wpl_boxRH); (· rfl); (· rfl); (· exact H); (clear H; intro px _ H); (simp only [Act.put, List.setIfInBounds_toArray, List.set_cons_zero, List.set_cons_succ]); change Heap _ (Cel px (cmd _) _ :: _) _ at H)
    | ((with_reducible show wpList _ _ _ (_ :: _) _ _); (with_reducible apply wpl_loadCH); (· first | exact cell_bool | exact cell_u64 | exact cell_steps); (· rfl); (· rfl); (· exact H); (· (repeat (first | (with_reducible exact List.mem_cons_self) | with_reducible apply List.mem_cons_of_mem))); (· (with_reducible first | exact rcl_g0 .. | exact rcl_g1 .. | exact rcl_g2 .. | exact rcl_g3 .. | exact rcl_g4 .. | exact rcl_g5 .. | exact rcl_g6 .. | exact cmd_g0 ..)); (simp only [Act.put, List.setIfInBounds_toArray, List.set_cons_zero, List.set_cons_succ]))
    | (first | ((with_reducible show wpList _ _ _ (_ :: _) _ _); (with_reducible apply wpl_storeIH); (· first | exact cell_u64 | exact cell_bool); (· rfl); (· rfl); (· rfl); (· exact H); (· (repeat (first | (with_reducible exact List.mem_cons_self) | with_reducible apply List.mem_cons_of_mem))); (· (simp only [rcl_sz, Nat.reduceLT]; done)); (· (with_reducible first | exact rcl_s0 .. | exact rcl_s1 .. | exact rcl_s2 .. | exact rcl_s3 .. | exact rcl_s4 .. | exact rcl_s5 .. | exact rcl_s6 ..)); (· (repeat (first | (with_reducible exact Repl.here) | with_reducible apply Repl.there))); (clear H; intro _ H); (simp only [Act.put, List.setIfInBounds_toArray, List.set_cons_zero, List.set_cons_succ])) | ((with_reducible show wpList _ _ _ (_ :: _) _ _); (with_reducible apply wpl_storeBH); (· first | exact cell_u64 | exact cell_bool); (· rfl); (· rfl); (· rfl); (· exact H); (· (repeat (first | (with_reducible exact List.mem_cons_self) | with_reducible apply List.mem_cons_of_mem))); (· (simp only [rcl_sz, Nat.reduceLT]; done)); (· (with_reducible first | exact rcl_s0 .. | exact rcl_s1 .. | exact rcl_s2 .. | exact rcl_s3 .. | exact rcl_s4 .. | exact rcl_s5 .. | exact rcl_s6 ..)); (· (repeat (first | (with_reducible exact Repl.here) | with_reducible apply Repl.there))); (clear H; intro _ H); (simp only [Act.put, List.setIfInBounds_toArray, List.set_cons_zero, List.set_cons_succ])) | ((with_reducible show wpList _ _ _ (_ :: _) _ _); (with_reducible apply wpl_storeSH); (· first | exact cell_u64 | exact cell_bool); (· rfl); (· rfl); (· rfl); (· exact H); (· (repeat (first | (with_reducible exact List.mem_cons_self) | with_reducible apply List.mem_cons_of_mem))); (· (simp only [rcl_sz, Nat.reduceLT]; done)); (· (with_reducible first | exact rcl_s0 .. | exact rcl_s1 .. | exact rcl_s2 .. | exact rcl_s3 .. | exact rcl_s4 .. | exact rcl_s5 .. | exact rcl_s6 ..)); (· (repeat (first | (with_reducible exact Repl.here) | with_reducible apply Repl.there))); (clear H; intro _ H); (simp only [Act.put, List.setIfInBounds_toArray, List.set_cons_zero, List.set_cons_succ])) | ((with_reducible show wpList _ _ _ (_ :: _) _ _); (with_reducible apply wpl_storePH); (· first | exact cell_u64 | exact cell_bool); (· rfl); (· rfl); (· rfl); (· exact H); (· (repeat (first | (with_reducible exact List.mem_cons_self) | with_reducible apply List.mem_cons_of_mem))); (· (simp only [rcl_sz, Nat.reduceLT]; done)); (· (with_reducible first | exact rcl_s0 .. | exact rcl_s1 .. | exact rcl_s2 .. | exact rcl_s3 .. | exact rcl_s4 .. | exact rcl_s5 .. | exact rcl_s6 ..)); (· (repeat (first | (with_reducible exact Repl.here) | with_reducible apply Repl.there))); (clear H; intro _ H); (simp only [Act.put, List.setIfInBounds_toArray, List.set_cons_zero, List.set_cons_succ])))
    | ((with_reducible show wpList _ _ _ (_ :: _) _ _); (with_reducible apply wpl_storeRH row_cmd); (· rfl); (· rfl); (· rfl); (· with_reducible exact cmd_cells1 ..); (· exact H); (· (repeat (first | (with_reducible exact List.mem_cons_self) | with_reducible apply List.mem_cons_of_mem))); (· (simp only [rcl_sz, Nat.reduceAdd, Nat.reduceLeDiff, Nat.le_refl]; done)); (· with_reducible exact rcl_put ..); (· (repeat (first | (with_reducible exact Repl.here) | with_reducible apply Repl.there))); (clear H; intro _ H); (simp only [Act.put, List.setIfInBounds_toArray, List.set_cons_zero, List.set_cons_succ])))
  simp only [Nat.zero_add, List.nil_append] at H
  refine (rcalls_H p id n to num' waits true a2 m c2 (H.pull (.there (.there .here))) HI.out.1 HI.out.2).mono ?_
  clear H
  rintro e w5 ⟨q, rfl, H⟩
  go_wp2_with (go_skip)
  go_ret2
  exact ⟨q, a2, c2, rfl, H.drop (.there (.there (.there .here)))⟩
theorem rtick_none (p : Nat) (id n to num waits : Int) (s : Value) (H : Heap W (RCl p id n to num false s waits :: l) w) :
    Calls Try.prog 21 #[.pointer (some ⟨p, 0, none⟩)] w fun e w' => e = .returned (.slice none 0 0) ∧ Heap W (RCl p id n to num false s waits :: l) w' := by
  go_enter Try.func21, Try.ntmps21
  go_wp2_with (first | go_skip | ((with_reducible show wpList _ _ _ (_ :: _) _ _); (with_reducible apply wpl_loadCH); (· exact cell_bool); (· rfl); (· rfl); (· exact H); (· (repeat (first | (with_reducible exact List.mem_cons_self) | with_reducible apply List.mem_cons_of_mem))); (· (with_reducible first | exact rcl_g0 .. | exact rcl_g1 .. | exact rcl_g2 .. | exact rcl_g3 .. | exact rcl_g4 .. | exact rcl_g5 .. | exact rcl_g6 ..)); (simp only [Act.put, List.setIfInBounds_toArray, List.set_cons_zero, List.set_cons_succ])))
  go_ret
  exact ⟨rfl, H⟩
theorem rtick_wait (p : Nat) (id n to num waits : Int) (s : Value) (h0 : 0 ≤ waits) (h4 : waits < 4) (H : Heap W (RCl p id n to num true s waits :: l) w) :
    Calls Try.prog 21 #[.pointer (some ⟨p, 0, none⟩)] w fun e w' => e = .returned (.slice none 0 0) ∧ Heap W (RCl p id n to num true s (waits + 1) :: l) w' := by
  have k1 : decide (waits + 1 < 5) = true := by simp; omega
  go_enter Try.func21, Try.ntmps21
  go_wp2_with (first | go_skip | ((with_reducible show wpList _ _ _ (_ :: _) _ _); (with_reducible apply wpl_loadCH); (· first | exact cell_bool | exact cell_i64); (· rfl); (· rfl); (· exact H); (· (repeat (first | (with_reducible exact List.mem_cons_self) | with_reducible apply List.mem_cons_of_mem))); (· (with_reducible first | exact rcl_g0 .. | exact rcl_g1 .. | exact rcl_g2 .. | exact rcl_g3 .. | exact rcl_g4 .. | exact rcl_g5 .. | exact rcl_g6 ..)); (simp only [Act.put, List.setIfInBounds_toArray, List.set_cons_zero, List.set_cons_succ])) | (first | ((with_reducible show wpList _ _ _ (_ :: _) _ _); (with_reducible apply wpl_storeIH); (· exact cell_i64); (· rfl); (· rfl); (· rfl); (· exact H); (· (repeat (first | (with_reducible exact List.mem_cons_self) | with_reducible apply List.mem_cons_of_mem))); (· (simp only [rcl_sz, Nat.reduceLT]; done)); (· (with_reducible first | exact rcl_s0 .. | exact rcl_s1 .. | exact rcl_s2 .. | exact rcl_s3 .. | exact rcl_s4 .. | exact rcl_s5 .. | exact rcl_s6 ..)); (· (repeat (first | (with_reducible exact Repl.here) | with_reducible apply Repl.there))); (clear H; intro _ H); (simp only [Act.put, List.setIfInBounds_toArray, List.set_cons_zero, List.set_cons_succ])) | ((with_reducible show wpList _ _ _ (_ :: _) _ _); (with_reducible apply wpl_storeBH); (· exact cell_i64); (· rfl); (· rfl); (· rfl); (· exact H); (· (repeat (first | (with_reducible exact List.mem_cons_self) | with_reducible apply List.mem_cons_of_mem))); (· (simp only [rcl_sz, Nat.reduceLT]; done)); (· (with_reducible first | exact rcl_s0 .. | exact rcl_s1 .. | exact rcl_s2 .. | exact rcl_s3 .. | exact rcl_s4 .. | exact rcl_s5 .. | exact rcl_s6 ..)); (· (repeat (first | (with_reducible exact Repl.here) | with_reducible apply Repl.there))); (clear H; intro _ H); (simp only [Act.put, List.setIfInBounds_toArray, List.set_cons_zero, List.set_cons_succ])) | ((with_reducible show wpList _ _ _ (_ :: _) _ _); (with_reducible apply wpl_storeSH); (· exact cell_i64); (· rfl); (· rfl); (· rfl); (· exact H); (· (repeat (first | (with_reducible exact List.mem_cons_self) | with_reducible apply List.mem_cons_of_mem))); (· (simp only [rcl_sz, Nat.reduceLT]; done)); (· (with_reducible first | exact rcl_s0 .. | exact rcl_s1 .. | exact rcl_s2 .. | exact rcl_s3 .. | exact rcl_s4 .. | exact rcl_s5 .. | exact rcl_s6 ..)); (· (repeat (first | (with_reducible exact Repl.here) | with_reducible apply Repl.there))); (clear H; intro _ H); (simp only [Act.put, List.setIfInBounds_toArray, List.set_cons_zero, List.set_cons_succ])) | ((with_reducible show wpList _ _ _ (_ :: _) _ _); (with_reducible apply wpl_storePH); (· exact cell_i64); (· rfl); (· rfl); (· rfl); (· exact H); (· (repeat (first | (with_reducible exact List.mem_cons_self) | with_reducible apply List.mem_cons_of_mem))); (· (simp only [rcl_sz, Nat.reduceLT]; done)); (· (with_reducible first | exact rcl_s0 .. | exact rcl_s1 .. | exact rcl_s2 .. | exact rcl_s3 .. | exact rcl_s4 .. | exact rcl_s5 .. | exact rcl_s6 ..)); (· (repeat (first | (with_reducible exact Repl.here) | with_reducible apply Repl.there))); (clear H; intro _ H); (simp only [Act.put, List.setIfInBounds_toArray, List.set_cons_zero, List.set_cons_succ]))))
  go_ret
  exact ⟨rfl, H⟩
theorem rtick_call (p : Nat) (id n to to' num : Int) (a : Option Addr) (m c : Nat) (hid : 0 ≤ id ∧ id ≤ 8) (hn0 : 0 < n) (hn7 : n ≤ 7) (ht : 1 ≤ to ∧ to ≤ n) (ht' : to % n + 1 = to') (H : Heap W (RCl p id n to num true (.slice a m c) 4 :: l) w) :
    Calls Try.prog 21 #[.pointer (some ⟨p, 0, none⟩)] w fun e w' => ∃ q, e = .returned (.slice (some ⟨q, 0, none⟩) 1 1) ∧
      Heap W (Cel q (rlet 6 (100 + id) to' 0 0 0 0 false (.slice none 0 0) (.slice none 0 0) id num (.slice a m c) 0 0 0 (.slice none 0 0)) 76 :: RCl p id n to' num true (.slice a m c) 0 :: l) w' := by
  have HI := Lib.hid hid
  by_cases h : to = n
  · have e : to' = 1 := by subst h; rw [Int.emod_self] at ht'; omega
    have k1 : decide (n < to + 1) = true := by simp; omega
    have HQ := Lib.hid (And.intro h ht')
    subst e
    have ht1 : 1 ≤ to := ht.1
    have ht2 : to ≤ 7 := by omega
    clear hid ht ht' h
    go_enter Try.func21, Try.ntmps21
    go_wp2_with (first | go_skip | ((with_reducible show wpList _ _ _ (_ :: _) _ _); (with_reducible apply wpl_loadCH); (· first | exact cell_bool | exact cell_i64); (· rfl); (· rfl); (· exact H); (· (repeat (first | (with_reducible exact List.mem_cons_self) | with_reducible apply List.mem_cons_of_mem))); (· (with_reducible first | exact rcl_g0 .. | exact rcl_g1 .. | exact rcl_g2 .. | exact rcl_g3 .. | exact rcl_g4 .. | exact rcl_g5 .. | exact rcl_g6 ..)); (simp only [Act.put, List.setIfInBounds_toArray, List.set_cons_zero, List.set_cons_succ])) | (first | ((with_reducible show wpList _ _ _ (_ :: _) _ _); (with_reducible apply wpl_storeIH); (· exact cell_i64); (· rfl); (· rfl); (· rfl); (· exact H); (· (repeat (first | (with_reducible exact List.mem_cons_self) | with_reducible apply List.mem_cons_of_mem))); (· (simp only [rcl_sz, Nat.reduceLT]; done)); (· (with_reducible first | exact rcl_s0 .. | exact rcl_s1 .. | exact rcl_s2 .. | exact rcl_s3 .. | exact rcl_s4 .. | exact rcl_s5 .. | exact rcl_s6 ..)); (· (repeat (first | (with_reducible exact Repl.here) | with_reducible apply Repl.there))); (clear H; intro _ H); (simp only [Act.put, List.setIfInBounds_toArray, List.set_cons_zero, List.set_cons_succ])) | ((with_reducible show wpList _ _ _ (_ :: _) _ _); (with_reducible apply wpl_storeBH); (· exact cell_i64); (· rfl); (· rfl); (· rfl); (· exact H); (· (repeat (first | (with_reducible exact List.mem_cons_self) | with_reducible apply List.mem_cons_of_mem))); (· (simp only [rcl_sz, Nat.reduceLT]; done)); (· (with_reducible first | exact rcl_s0 .. | exact rcl_s1 .. | exact rcl_s2 .. | exact rcl_s3 .. | exact rcl_s4 .. | exact rcl_s5 .. | exact rcl_s6 ..)); (· (repeat (first | (with_reducible exact Repl.here) | with_reducible apply Repl.there))); (clear H; intro _ H); (simp only [Act.put, List.setIfInBounds_toArray, List.set_cons_zero, List.set_cons_succ])) | ((with_reducible show wpList _ _ _ (_ :: _) _ _); (with_reducible apply wpl_storeSH); (· exact cell_i64); (· rfl); (· rfl); (· rfl); (· exact H); (· (repeat (first | (with_reducible exact List.mem_cons_self) | with_reducible apply List.mem_cons_of_mem))); (· (simp only [rcl_sz, Nat.reduceLT]; done)); (· (with_reducible first | exact rcl_s0 .. | exact rcl_s1 .. | exact rcl_s2 .. | exact rcl_s3 .. | exact rcl_s4 .. | exact rcl_s5 .. | exact rcl_s6 ..)); (· (repeat (first | (with_reducible exact Repl.here) | with_reducible apply Repl.there))); (clear H; intro _ H); (simp only [Act.put, List.setIfInBounds_toArray, List.set_cons_zero, List.set_cons_succ])) | ((with_reducible show wpList _ _ _ (_ :: _) _ _); (with_reducible apply wpl_storePH); (· exact cell_i64); (· rfl); (· rfl); (· rfl); (· exact H); (· (repeat (first | (with_reducible exact List.mem_cons_self) | with_reducible apply List.mem_cons_of_mem))); (· (simp only [rcl_sz, Nat.reduceLT]; done)); (· (with_reducible first | exact rcl_s0 .. | exact rcl_s1 .. | exact rcl_s2 .. | exact rcl_s3 .. | exact rcl_s4 .. | exact rcl_s5 .. | exact rcl_s6 ..)); (· (repeat (first | (with_reducible exact Repl.here) | with_reducible apply Repl.there))); (clear H; intro _ H); (simp only [Act.put, List.setIfInBounds_toArray, List.set_cons_zero, List.set_cons_succ]))))
    refine wp_region_H H (by kernel_rfl) (by kernel_rfl) ?_
    repeat (first | go_big_quiet_skip | ((with_reducible apply wpQ_loadCH); (· exact cell_i64); (· rfl); (· rfl); (· (repeat (first | (with_reducible exact List.mem_cons_self) | with_reducible apply List.mem_cons_of_mem))); (· (with_reducible first | exact rcl_g0 .. | exact rcl_g1 .. | exact rcl_g2 .. | exact rcl_g3 .. | exact rcl_g4 .. | exact rcl_g5 .. | exact rcl_g6 ..)); (simp only [Act.put, List.setIfInBounds_toArray, List.set_cons_zero, List.set_cons_succ])) | go_big_quiet_step (fail))
    refine wpQuiet_nil ?_
    clear H
    intro _ H
    go_wp2_with (first | go_skip | ((with_reducible show wpList _ _ _ (_ :: _) _ _); (with_reducible apply wpl_loadCH); (· first | exact cell_bool | exact cell_i64); (· rfl); (· rfl); (· exact H); (· (repeat (first | (with_reducible exact List.mem_cons_self) | with_reducible apply List.mem_cons_of_mem))); (· (with_reducible first | exact rcl_g0 .. | exact rcl_g1 .. | exact rcl_g2 .. | exact rcl_g3 .. | exact rcl_g4 .. | exact rcl_g5 .. | exact rcl_g6 ..)); (simp only [Act.put, List.setIfInBounds_toArray, List.set_cons_zero, List.set_cons_succ])) | (first | ((with_reducible show wpList _ _ _ (_ :: _) _ _); (with_reducible apply wpl_storeIH); (· exact cell_i64); (· rfl); (· rfl); (· rfl); (· exact H); (· (repeat (first | (with_reducible exact List.mem_cons_self) | with_reducible apply List.mem_cons_of_mem))); (· (simp only [rcl_sz, Nat.reduceLT]; done)); (· (with_reducible first | exact rcl_s0 .. | exact rcl_s1 .. | exact rcl_s2 .. | exact rcl_s3 .. | exact rcl_s4 .. | exact rcl_s5 .. | exact rcl_s6 ..)); (· (repeat (first | (with_reducible exact Repl.here) | with_reducible apply Repl.there))); (clear H; intro _ H); (simp only [Act.put, List.setIfInBounds_toArray, List.set_cons_zero, List.set_cons_succ])) | ((with_reducible show wpList _ _ _ (_ :: _) _ _); (with_reducible apply wpl_storeBH); (· exact cell_i64); (· rfl); (· rfl); (· rfl); (· exact H); (· (repeat (first | (with_reducible exact List.mem_cons_self) | with_reducible apply List.mem_cons_of_mem))); (· (simp only [rcl_sz, Nat.reduceLT]; done)); (· (with_reducible first | exact rcl_s0 .. | exact rcl_s1 .. | exact rcl_s2 .. | exact rcl_s3 .. | exact rcl_s4 .. | exact rcl_s5 .. | exact rcl_s6 ..)); (· (repeat (first | (with_reducible exact Repl.here) | with_reducible apply Repl.there))); (clear H; intro _ H); (simp only [Act.put, List.setIfInBounds_toArray, List.set_cons_zero, List.set_cons_succ])) | ((with_reducible show wpList _ _ _ (_ :: _) _ _); (with_reducible apply wpl_storeSH); (· exact cell_i64); (· rfl); (· rfl); (· rfl); (· exact H); (· (repeat (first | (with_reducible exact List.mem_cons_self) | with_reducible apply List.mem_cons_of_mem))); (· (simp only [rcl_sz, Nat.reduceLT]; done)); (· (with_reducible first | exact rcl_s0 .. | exact rcl_s1 .. | exact rcl_s2 .. | exact rcl_s3 .. | exact rcl_s4 .. | exact rcl_s5 .. | exact rcl_s6 ..)); (· (repeat (first | (with_reducible exact Repl.here) | with_reducible apply Repl.there))); (clear H; intro _ H); (simp only [Act.put, List.setIfInBounds_toArray, List.set_cons_zero, List.set_cons_succ])) | ((with_reducible show wpList _ _ _ (_ :: _) _ _); (with_reducible apply wpl_storePH); (· exact cell_i64); (· rfl); (· rfl); (· rfl); (· exact H); (· (repeat (first | (with_reducible exact List.mem_cons_self) | with_reducible apply List.mem_cons_of_mem))); (· (simp only [rcl_sz, Nat.reduceLT]; done)); (· (with_reducible first | exact rcl_s0 .. | exact rcl_s1 .. | exact rcl_s2 .. | exact rcl_s3 .. | exact rcl_s4 .. | exact rcl_s5 .. | exact rcl_s6 ..)); (· (repeat (first | (with_reducible exact Repl.here) | with_reducible apply Repl.there))); (clear H; intro _ H); (simp only [Act.put, List.setIfInBounds_toArray, List.set_cons_zero, List.set_cons_succ]))))
    refine (rcalls_H p id n 1 num 5 true a m c H HI.out (by omega)).mono ?_
    clear H
    rintro e w5 ⟨q, rfl, H⟩
    go_wp2_with (go_skip)
    go_ret
    exact ⟨q, rfl, H⟩
  · have e : to' = to + 1 := by rw [← ht', Int.emod_eq_of_lt (by omega) (by omega)]
    have k1 : decide (n < to + 1) = false := by simp; omega
    subst e
    have ht1 : 1 ≤ to := ht.1
    have ht2 : to < n := by omega
    clear hid ht ht' h
    go_enter Try.func21, Try.ntmps21
    go_wp2_with (first | go_skip | ((with_reducible show wpList _ _ _ (_ :: _) _ _); (with_reducible apply wpl_loadCH); (· first | exact cell_bool | exact cell_i64); (· rfl); (· rfl); (· exact H); (· (repeat (first | (with_reducible exact List.mem_cons_self) | with_reducible apply List.mem_cons_of_mem))); (· (with_reducible first | exact rcl_g0 .. | exact rcl_g1 .. | exact rcl_g2 .. | exact rcl_g3 .. | exact rcl_g4 .. | exact rcl_g5 .. | exact rcl_g6 ..)); (simp only [Act.put, List.setIfInBounds_toArray, List.set_cons_zero, List.set_cons_succ])) | (first | ((with_reducible show wpList _ _ _ (_ :: _) _ _); (with_reducible apply wpl_storeIH); (· exact cell_i64); (· rfl); (· rfl); (· rfl); (· exact H); (· (repeat (first | (with_reducible exact List.mem_cons_self) | with_reducible apply List.mem_cons_of_mem))); (· (simp only [rcl_sz, Nat.reduceLT]; done)); (· (with_reducible first | exact rcl_s0 .. | exact rcl_s1 .. | exact rcl_s2 .. | exact rcl_s3 .. | exact rcl_s4 .. | exact rcl_s5 .. | exact rcl_s6 ..)); (· (repeat (first | (with_reducible exact Repl.here) | with_reducible apply Repl.there))); (clear H; intro _ H); (simp only [Act.put, List.setIfInBounds_toArray, List.set_cons_zero, List.set_cons_succ])) | ((with_reducible show wpList _ _ _ (_ :: _) _ _); (with_reducible apply wpl_storeBH); (· exact cell_i64); (· rfl); (· rfl); (· rfl); (· exact H); (· (repeat (first | (with_reducible exact List.mem_cons_self) | with_reducible apply List.mem_cons_of_mem))); (· (simp only [rcl_sz, Nat.reduceLT]; done)); (· (with_reducible first | exact rcl_s0 .. | exact rcl_s1 .. | exact rcl_s2 .. | exact rcl_s3 .. | exact rcl_s4 .. | exact rcl_s5 .. | exact rcl_s6 ..)); (· (repeat (first | (with_reducible exact Repl.here) | with_reducible apply Repl.there))); (clear H; intro _ H); (simp only [Act.put, List.setIfInBounds_toArray, List.set_cons_zero, List.set_cons_succ])) | ((with_reducible show wpList _ _ _ (_ :: _) _ _); (with_reducible apply wpl_storeSH); (· exact cell_i64); (· rfl); (· rfl); (· rfl); (· exact H); (· (repeat (first | (with_reducible exact List.mem_cons_self) | with_reducible apply List.mem_cons_of_mem))); (· (simp only [rcl_sz, Nat.reduceLT]; done)); (· (with_reducible first | exact rcl_s0 .. | exact rcl_s1 .. | exact rcl_s2 .. | exact rcl_s3 .. | exact rcl_s4 .. | exact rcl_s5 .. | exact rcl_s6 ..)); (· (repeat (first | (with_reducible exact Repl.here) | with_reducible apply Repl.there))); (clear H; intro _ H); (simp only [Act.put, List.setIfInBounds_toArray, List.set_cons_zero, List.set_cons_succ])) | ((with_reducible show wpList _ _ _ (_ :: _) _ _); (with_reducible apply wpl_storePH); (· exact cell_i64); (· rfl); (· rfl); (· rfl); (· exact H); (· (repeat (first | (with_reducible exact List.mem_cons_self) | with_reducible apply List.mem_cons_of_mem))); (· (simp only [rcl_sz, Nat.reduceLT]; done)); (· (with_reducible first | exact rcl_s0 .. | exact rcl_s1 .. | exact rcl_s2 .. | exact rcl_s3 .. | exact rcl_s4 .. | exact rcl_s5 .. | exact rcl_s6 ..)); (· (repeat (first | (with_reducible exact Repl.here) | with_reducible apply Repl.there))); (clear H; intro _ H); (simp only [Act.put, List.setIfInBounds_toArray, List.set_cons_zero, List.set_cons_succ]))))
    refine wp_region_H H (by kernel_rfl) (by kernel_rfl) ?_
    repeat (first | go_big_quiet_skip | ((with_reducible apply wpQ_loadCH); (· exact cell_i64); (· rfl); (· rfl); (· (repeat (first | (with_reducible exact List.mem_cons_self) | with_reducible apply List.mem_cons_of_mem))); (· (with_reducible first | exact rcl_g0 .. | exact rcl_g1 .. | exact rcl_g2 .. | exact rcl_g3 .. | exact rcl_g4 .. | exact rcl_g5 .. | exact rcl_g6 ..)); (simp only [Act.put, List.setIfInBounds_toArray, List.set_cons_zero, List.set_cons_succ])) | go_big_quiet_step (fail))
    refine wpQuiet_nil ?_
    clear H
    intro _ H
    go_wp2_with (first | go_skip | ((with_reducible show wpList _ _ _ (_ :: _) _ _); (with_reducible apply wpl_loadCH); (· first | exact cell_bool | exact cell_i64); (· rfl); (· rfl); (· exact H); (· (repeat (first | (with_reducible exact List.mem_cons_self) | with_reducible apply List.mem_cons_of_mem))); (· (with_reducible first | exact rcl_g0 .. | exact rcl_g1 .. | exact rcl_g2 .. | exact rcl_g3 .. | exact rcl_g4 .. | exact rcl_g5 .. | exact rcl_g6 ..)); (simp only [Act.put, List.setIfInBounds_toArray, List.set_cons_zero, List.set_cons_succ])) | (first | ((with_reducible show wpList _ _ _ (_ :: _) _ _); (with_reducible apply wpl_storeIH); (· exact cell_i64); (· rfl); (· rfl); (· rfl); (· exact H); (· (repeat (first | (with_reducible exact List.mem_cons_self) | with_reducible apply List.mem_cons_of_mem))); (· (simp only [rcl_sz, Nat.reduceLT]; done)); (· (with_reducible first | exact rcl_s0 .. | exact rcl_s1 .. | exact rcl_s2 .. | exact rcl_s3 .. | exact rcl_s4 .. | exact rcl_s5 .. | exact rcl_s6 ..)); (· (repeat (first | (with_reducible exact Repl.here) | with_reducible apply Repl.there))); (clear H; intro _ H); (simp only [Act.put, List.setIfInBounds_toArray, List.set_cons_zero, List.set_cons_succ])) | ((with_reducible show wpList _ _ _ (_ :: _) _ _); (with_reducible apply wpl_storeBH); (· exact cell_i64); (· rfl); (· rfl); (· rfl); (· exact H); (· (repeat (first | (with_reducible exact List.mem_cons_self) | with_reducible apply List.mem_cons_of_mem))); (· (simp only [rcl_sz, Nat.reduceLT]; done)); (· (with_reducible first | exact rcl_s0 .. | exact rcl_s1 .. | exact rcl_s2 .. | exact rcl_s3 .. | exact rcl_s4 .. | exact rcl_s5 .. | exact rcl_s6 ..)); (· (repeat (first | (with_reducible exact Repl.here) | with_reducible apply Repl.there))); (clear H; intro _ H); (simp only [Act.put, List.setIfInBounds_toArray, List.set_cons_zero, List.set_cons_succ])) | ((with_reducible show wpList _ _ _ (_ :: _) _ _); (with_reducible apply wpl_storeSH); (· exact cell_i64); (· rfl); (· rfl); (· rfl); (· exact H); (· (repeat (first | (with_reducible exact List.mem_cons_self) | with_reducible apply List.mem_cons_of_mem))); (· (simp only [rcl_sz, Nat.reduceLT]; done)); (· (with_reducible first | exact rcl_s0 .. | exact rcl_s1 .. | exact rcl_s2 .. | exact rcl_s3 .. | exact rcl_s4 .. | exact rcl_s5 .. | exact rcl_s6 ..)); (· (repeat (first | (with_reducible exact Repl.here) | with_reducible apply Repl.there))); (clear H; intro _ H); (simp only [Act.put, List.setIfInBounds_toArray, List.set_cons_zero, List.set_cons_succ])) | ((with_reducible show wpList _ _ _ (_ :: _) _ _); (with_reducible apply wpl_storePH); (· exact cell_i64); (· rfl); (· rfl); (· rfl); (· exact H); (· (repeat (first | (with_reducible exact List.mem_cons_self) | with_reducible apply List.mem_cons_of_mem))); (· (simp only [rcl_sz, Nat.reduceLT]; done)); (· (with_reducible first | exact rcl_s0 .. | exact rcl_s1 .. | exact rcl_s2 .. | exact rcl_s3 .. | exact rcl_s4 .. | exact rcl_s5 .. | exact rcl_s6 ..)); (· (repeat (first | (with_reducible exact Repl.here) | with_reducible apply Repl.there))); (clear H; intro _ H); (simp only [Act.put, List.setIfInBounds_toArray, List.set_cons_zero, List.set_cons_succ]))))
    refine (rcalls_H p id n (to + 1) num 5 true a m c H HI.out (by omega)).mono ?_
    clear H
    rintro e w5 ⟨q, rfl, H⟩
    go_wp2_with (go_skip)
    go_ret
    exact ⟨q, rfl, H⟩
end
end Go.Proofs.Ytjipelhcgglhhaa

/- clients.Client: Take. -/
namespace Go.Proofs.Ytjipelhcgglhhaa
open Go.RowKit
set_option linter.unusedSimpArgs false
set_option linter.unusedVariables false

def letg (kind : Int) (frm : Int) (lto : Int) (term : Int) (index : Int) (mark : Int) (commit : Int) (yes : Bool) (entries : Value) (data : Value) (cid : Int) (cnum : Int) (steps : Value) (err : Int) (rerr : Int) (rat : Int) (got : Value) : Array Value := #[.int .u8 kind, .int .u8 frm, .int .u8 lto, .int .u64 term, .int .u64 index, .int .u64 mark, .int .u64 commit, .bool yes, entries, data, .int .u8 cid, .int .u64 cnum, steps, .int .i64 err, .int .i64 rerr, .int .i64 rat, got]
section
variable (kind : Int) (frm : Int) (lto : Int) (term : Int) (index : Int) (mark : Int) (commit : Int) (yes : Bool) (entries : Value) (data : Value) (cid : Int) (cnum : Int) (steps : Value) (err : Int) (rerr : Int) (rat : Int) (got : Value)
theorem letg_sz : (letg kind frm lto term index mark commit yes entries data cid cnum steps err rerr rat got).size = 17 := rfl
theorem letg_g0 : (letg kind frm lto term index mark commit yes entries data cid cnum steps err rerr rat got)[0]? = some (.int .u8 kind) := rfl
theorem letg_s0 (v : Int) : (letg kind frm lto term index mark commit yes entries data cid cnum steps err rerr rat got).setIfInBounds 0 (.int .u8 v) = letg v frm lto term index mark commit yes entries data cid cnum steps err rerr rat got := rfl
theorem letg_g1 : (letg kind frm lto term index mark commit yes entries data cid cnum steps err rerr rat got)[1]? = some (.int .u8 frm) := rfl
theorem letg_s1 (v : Int) : (letg kind frm lto term index mark commit yes entries data cid cnum steps err rerr rat got).setIfInBounds 1 (.int .u8 v) = letg kind v lto term index mark commit yes entries data cid cnum steps err rerr rat got := rfl
theorem letg_g2 : (letg kind frm lto term index mark commit yes entries data cid cnum steps err rerr rat got)[2]? = some (.int .u8 lto) := rfl
theorem letg_s2 (v : Int) : (letg kind frm lto term index mark commit yes entries data cid cnum steps err rerr rat got).setIfInBounds 2 (.int .u8 v) = letg kind frm v term index mark commit yes entries data cid cnum steps err rerr rat got := rfl
theorem letg_g3 : (letg kind frm lto term index mark commit yes entries data cid cnum steps err rerr rat got)[3]? = some (.int .u64 term) := rfl
theorem letg_g4 : (letg kind frm lto term index mark commit yes entries data cid cnum steps err rerr rat got)[4]? = some (.int .u64 index) := rfl
theorem letg_g5 : (letg kind frm lto term index mark commit yes entries data cid cnum steps err rerr rat got)[5]? = some (.int .u64 mark) := rfl
theorem letg_g6 : (letg kind frm lto term index mark commit yes entries data cid cnum steps err rerr rat got)[6]? = some (.int .u64 commit) := rfl
theorem letg_g7 : (letg kind frm lto term index mark commit yes entries data cid cnum steps err rerr rat got)[7]? = some (.bool yes) := rfl
theorem letg_g8 : (letg kind frm lto term index mark commit yes entries data cid cnum steps err rerr rat got)[8]? = some (entries) := rfl
theorem letg_g9 : (letg kind frm lto term index mark commit yes entries data cid cnum steps err rerr rat got)[9]? = some (data) := rfl
theorem letg_g10 : (letg kind frm lto term index mark commit yes entries data cid cnum steps err rerr rat got)[10]? = some (.int .u8 cid) := rfl
theorem letg_s10 (v : Int) : (letg kind frm lto term index mark commit yes entries data cid cnum steps err rerr rat got).setIfInBounds 10 (.int .u8 v) = letg kind frm lto term index mark commit yes entries data v cnum steps err rerr rat got := rfl
theorem letg_g11 : (letg kind frm lto term index mark commit yes entries data cid cnum steps err rerr rat got)[11]? = some (.int .u64 cnum) := rfl
theorem letg_s11 (v : Int) : (letg kind frm lto term index mark commit yes entries data cid cnum steps err rerr rat got).setIfInBounds 11 (.int .u64 v) = letg kind frm lto term index mark commit yes entries data cid v steps err rerr rat got := rfl
theorem letg_g12 : (letg kind frm lto term index mark commit yes entries data cid cnum steps err rerr rat got)[12]? = some (steps) := rfl
theorem letg_g13 : (letg kind frm lto term index mark commit yes entries data cid cnum steps err rerr rat got)[13]? = some (.int .i64 err) := rfl
theorem letg_g14 : (letg kind frm lto term index mark commit yes entries data cid cnum steps err rerr rat got)[14]? = some (.int .i64 rerr) := rfl
theorem letg_g15 : (letg kind frm lto term index mark commit yes entries data cid cnum steps err rerr rat got)[15]? = some (.int .i64 rat) := rfl
theorem letg_g16 : (letg kind frm lto term index mark commit yes entries data cid cnum steps err rerr rat got)[16]? = some (got) := rfl
end
def rep (rerr : Int) (rat : Int) (got : Value) : Array Value := #[.int .i64 rerr, .int .i64 rat, got]
section
variable (rerr : Int) (rat : Int) (got : Value)
theorem rep_sz : (rep rerr rat got).size = 3 := rfl
theorem rep_g0 : (rep rerr rat got)[0]? = some (.int .i64 rerr) := rfl
theorem rep_s0 (v : Int) : (rep rerr rat got).setIfInBounds 0 (.int .i64 v) = rep v rat got := rfl
theorem rep_g1 : (rep rerr rat got)[1]? = some (.int .i64 rat) := rfl
theorem rep_s1 (v : Int) : (rep rerr rat got).setIfInBounds 1 (.int .i64 v) = rep rerr v got := rfl
theorem rep_g2 : (rep rerr rat got)[2]? = some (got) := rfl
theorem rep_s2 (v : Value) : (rep rerr rat got).setIfInBounds 2 (v) = rep rerr rat v := rfl
end
def one (v : Value) : Array Value := #[v]
section
variable (v : Value)
theorem one_g0 : (one v)[0]? = some (v) := rfl
end
theorem row_rep : RowTy 34 3 (rep 0 0 (.slice none 0 0)) := ⟨⟨_, Try.underlying34, rfl⟩, by kernel_rfl, by kernel_rfl⟩
theorem rep_all (a b : Int) (g : Value) : (rep a b g).extract 0 (0 + 3) = rep a b g := by simp [rep]
theorem rep_cells (a b : Int) (p : Option Addr) (n c : Nat) : Cells 3 (rep a b (.slice p n c)) := by
  refine ⟨rfl, ?_⟩
  simp [rep, Value.oneCell']
theorem rep_splice (a b c d : Int) (g h : Value) : splice (rep a b g) 0 (rep c d h) = rep c d h := splice_all rfl
theorem cell_kind : CellTy 25 := ⟨⟨_, Try.underlying25, rfl⟩, by kernel_rfl⟩
theorem cell_errno : CellTy 31 := ⟨⟨_, Try.underlying31, rfl⟩, by kernel_rfl⟩
theorem cell_pcli : CellTy 46 := ⟨⟨_, Try.underlying46, rfl⟩, by kernel_rfl⟩
theorem cell_gots : CellTy 32 := ⟨⟨_, Try.underlying32, rfl⟩, by kernel_rfl⟩

section
variable {W w : World} {l : List Thing}
set_option maxRecDepth 100000
set_option maxHeartbeats 1000000
theorem clipG_nil : Ans 30 #[.slice none 0 0] (.slice none 0 0) := by
  intro w
  go_enter Try.func30, Try.ntmps30
  go_wp2
  go_ret
  exact ⟨rfl, (by repeat (first | exact Ext.refl _ | refine Ext.alloc ?_ _ | refine Ext.ext ?_ _ | refine Ext.drew ?_))⟩
theorem letg_rep (kind frm lto term index mark commit : Int) (yes : Bool) (entries data : Value) (cid cnum : Int) (steps : Value) (err rerr rat : Int) (got : Value) : (letg kind frm lto term index mark commit yes entries data cid cnum steps err rerr rat got).extract 14 (14 + 3) = rep rerr rat got := by simp [letg, rep]
theorem row_letg : RowTy 36 17 (letg 0 0 0 0 0 0 0 false (.slice none 0 0) (.slice none 0 0) 0 0 (.slice none 0 0) 0 0 0 (.slice none 0 0)) := ⟨⟨_, Try.underlying36, rfl⟩, by kernel_rfl, by kernel_rfl⟩
section
variable (kind frm lto term index mark commit : Int) (yes : Bool) (entries data : Value) (cid cnum : Int) (steps : Value) (err rerr rat : Int) (got : Value)
theorem letg_all : (letg kind frm lto term index mark commit yes entries data cid cnum steps err rerr rat got).extract 0 (0 + 17) = letg kind frm lto term index mark commit yes entries data cid cnum steps err rerr rat got := by simp [letg]
theorem letg_splice (c : Array Value) (h : c.size = 17) : splice c 0 (letg kind frm lto term index mark commit yes entries data cid cnum steps err rerr rat got) = letg kind frm lto term index mark commit yes entries data cid cnum steps err rerr rat got := splice_all (by rw [h]; rfl)
end
/-- No open call. -/
abbrev opz : Array Value := #[.int .u8 0, .int .u8 0, .int .u8 0, .int .u64 0, .int .u64 0, .int .u64 0, .int .u64 0, .bool false, .slice none 0 0, .slice none 0 0, .int .u8 0, .int .u64 0, .slice none 0 0, .int .i64 0, .int .i64 0, .int .i64 0, .slice none 0 0, .bool false]
theorem opz_cells : Cells 18 opz := ⟨rfl, by simp [Value.oneCell']⟩
theorem cli_opz (id n to num waits kind frm lto cid cnum : Int) (steps : Value) (is : Bool) :
    splice (cli id n to num waits kind frm lto cid cnum steps is) 5 opz = cli id n to num waits 0 0 0 0 0 (.slice none 0 0) false := by
  simp [splice, cli]
theorem close_H (p py : Nat) (id n to num waits k0 f0 t0 c0 n0 : Int) (s0 : Value) (is : Bool) (u : FrameMode) (m : Cel py (one (.pointer (some ⟨p, 0, none⟩))) 46 ∈ l)
    (H : Heap W l w) {l' : List Thing} (m2 : Cel p (cli id n to num waits k0 f0 t0 c0 n0 s0 is) 45 ∈ l) (r : Repl l (Cel p (cli id n to num waits k0 f0 t0 c0 n0 s0 is) 45) (Cel p (cli id n to num waits 0 0 0 0 0 (.slice none 0 0) false) 45) l') :
    CallsD Try.prog 29 #[.pointer (some ⟨py, 0, none⟩)] u w fun e u' w' => u' = u ∧ (e = .returned (.tuple #[]) ∧ Heap W l' w') := by
  go_enter_d Try.func29, Try.ntmps29
  go_wp2_with (first
    | ((with_reducible show wpList _ _ _ (_ :: _) _ _); (with_reducible apply wpl_loadCH); (· exact cell_pcli); (· rfl); (· rfl); (· exact H); (· exact m); (· (with_reducible first | exact one_g0 ..)); (simp only [Act.put, List.setIfInBounds_toArray, List.set_cons_zero, List.set_cons_succ]))
    | ((with_reducible show wpList _ _ _ (_ :: _) _ _); (with_reducible apply wpl_storeRH row_open); (· rfl); (· rfl); (· rfl); (· with_reducible exact opz_cells); (· exact H); (· exact m2); (· (simp only [cli_sz, Nat.reduceAdd, Nat.reduceLeDiff, Nat.le_refl]; done)); (· with_reducible exact cli_opz ..); (· exact r); (clear H; intro _ H); (simp only [Act.put, List.setIfInBounds_toArray, List.set_cons_zero, List.set_cons_succ])))
  go_end0
  exact ⟨rfl, H⟩
end
end Go.Proofs.Ytjipelhcgglhhaa

/- Loud operations in a region that draws: a slice literal of one row, an append. -/
namespace Go.Proofs.Ytjipelhcgglhhaa
open Go.RowKit
set_option linter.unusedVariables false
section
variable {W : World} {G : List Thing → Prop} {loud : List Nat} {K : List Thing → Act → Prop} {l r : List Thing} {a : Act} {lo : List Oper} {ks : List Nat} {k : Nat} {dst : Option Tmp} {ty : TypeId} {pos : String} {after : Array Edge}
end
end Go.Proofs.Ytjipelhcgglhhaa

/- A region that draws its order, over a memory of things, with loud operations in one order: stores, makes, and calls that make or change things. A quiet operation must yield the same while some things stay ('base', a list that may grow behind a loud one): one walk in an order of one's own serves every order. -/
namespace Go.Proofs.Ytjipelhcgglhhaa
open Go.RowKit
set_option linter.unusedVariables false
def Keeps (base l : List Thing) : Prop := ∀ t, t ∈ base → t ∈ l
section
variable {P : Program} {ops : Array Oper} {md : Region.Mode} {W : World}
def YieldsK (P : Program) (ops : Array Oper) (W : World) (base : List Thing) (o : Oper) (v : Value) (a : Act) : Prop := ∀ l, Keeps base l → ∀ (w : World) (H : Heap W l w), YieldsIn P ops (fun w' => ∃ d, w' = H.any d) o v a
theorem YieldsK.of_same {base : List Thing} {o : Oper} {v : Value} {a a' : Act} (hy : YieldsK P ops W base o v a) (he : execOp a'.eval o = execOp a.eval o)
    (hw : Region.wanted o (yielded ops a'.tmps) = Region.wanted o (yielded ops a.tmps)) : YieldsK P ops W base o v a' := fun l hl w H => (hy l hl w H).of_same he hw
theorem YieldsK.more {base base' : List Thing} {o : Oper} {v : Value} {a : Act} (hy : YieldsK P ops W base o v a) (h : Keeps base base') : YieldsK P ops W base' o v a := fun l hl w H => hy l (fun t ht => hl t (h t ht)) w H
def LoudK (P : Program) (ops : Array Oper) (W : World) (o : Oper) (l : List Thing) (a : Act) (k : List Thing → Value → Prop) : Prop :=
  Region.wanted o (yielded ops a.tmps) = true ∧ ∀ w, Heap W l w →
    (∃ l' u w', ((execOp a.eval o).run P w = .ok (.value u) w' ∨ ((execOp a.eval o).run P w = .ok .skip w' ∧ u = undef)) ∧ Heap W l' w' ∧ k l' u) ∨
    (∃ f args w0, (execOp a.eval o).run P w = .ok (.enter f args) w0 ∧ Calls P f args w0 fun e w' => ∃ l' u, e = .returned u ∧ Heap W l' w' ∧ k l' u)
theorem LoudK.mono {o : Oper} {l : List Thing} {a : Act} {k k' : List Thing → Value → Prop} (h : LoudK P ops W o l a k) (hk : ∀ l' u, k l' u → k' l' u) : LoudK P ops W o l a k' :=
  ⟨h.1, fun w H => by
    rcases h.2 w H with ⟨l', u, w', h1, h2, h3⟩ | ⟨f, args, w0, h1, h2⟩
    · exact .inl ⟨l', u, w', h1, h2, hk _ _ h3⟩
    · exact .inr ⟨f, args, w0, h1, h2.mono fun e w' ⟨l', u, h3, h4, h5⟩ => ⟨l', u, h3, h4, hk _ _ h5⟩⟩⟩
theorem LoudK.of_same {o : Oper} {l : List Thing} {a a' : Act} {k : List Thing → Value → Prop} (h : LoudK P ops W o l a k) (he : execOp a'.eval o = execOp a.eval o)
    (hw : Region.wanted o (yielded ops a'.tmps) = Region.wanted o (yielded ops a.tmps)) : LoudK P ops W o l a' k := ⟨by rw [hw]; exact h.1, fun w H => by rw [he]; exact h.2 w H⟩
def WholeK (P : Program) (md : Region.Mode) (ops : Array Oper) (W : World) (K : List Thing → Act → Prop) : Nat → List Thing → List Thing → Array Bool → Act → Prop
  | 0, base, l, listed, a => Region.ready md ops listed = [] ∧ K l a
  | f + 1, base, l, listed, a => Region.ready md ops listed ≠ [] ∧ ∀ i ∈ Region.ready md ops listed, ∃ o, ops[i]? = some o ∧
      ((∃ v, YieldsK P ops W base o v a ∧ WholeK P md ops W K f base l (listed.setIfInBounds i true) (a.put o.dst v)) ∨
       LoudK P ops W o l a fun l' u => ∃ base', Keeps base base' ∧ Keeps base' l' ∧ WholeK P md ops W K f base' l' (listed.setIfInBounds i true) (a.put o.dst u))
theorem WholeK.any {K : List Thing → Act → Prop} {Q : Exit → Act → World → Prop} (hK : ∀ l a w, Heap W l w → K l a → Q .normal a w) :
    ∀ (f : Nat) (base l : List Thing) (listed : Array Bool) (a : Act) (w : World), Keeps base l → Heap W l w → WholeK P md ops W K f base l listed a → wpAny P md ops Q f listed a w := by
  intro f
  induction f with
  | zero => intro base l listed a w _ H h; exact ⟨h.1, hK _ _ _ H h.2⟩
  | succ f ih =>
    intro base l listed a w hG H h
    refine ⟨fun h0 => absurd h0 h.1, fun i hi => ?_⟩
    obtain ⟨o, ho, h⟩ := h.2 i hi
    rcases h with ⟨v, hy, h⟩ | h
    · refine wpOp_of_qOp (C := fun w' => ∃ d, w' = H.any d) (H.any_of H) (fun a' w' hw' ha' => ?_) ((hy l hG w H).qOp ho (K := fun a' => a' = a.put o.dst v) rfl)
      obtain ⟨d, rfl⟩ := hw'
      subst ha'
      exact ih _ _ _ _ _ hG (H.any_heap d) h
    · unfold wpOp
      simp only [ho]
      rw [if_pos h.1]
      refine .inl ?_
      unfold Oper.wp
      rcases h.2 w H with ⟨l', u, w', hr, H', base', h1, h2, hk⟩ | ⟨g, args, w0, hr, hc⟩
      · rcases hr with hr | ⟨hr, rfl⟩ <;> rw [hr] <;> exact ih _ _ _ _ _ h2 H' hk
      · rw [hr, Oper.upon_enter]
        refine hc.mono ?_
        rintro e w' ⟨l', u, rfl, H', base', h1, h2, hk⟩
        exact ih _ _ _ _ _ h2 H' hk
theorem WholeK.first {i : Nat} {oi : Oper} {v : Value} {K : List Thing → Act → Prop} (hi : ops[i]? = some oi) (hsel : ∀ (j : Nat) (o : Oper) cs b, ops[j]? = some o → o.op ≠ .select cs b) :
    ∀ (f : Nat) (base l : List Thing) (listed : Array Bool) (a : Act),
      (∀ j oj, ops[j]? = some oj → j ≠ i → listed.getD j true = false → (∀ e ∈ oj.after, Region.binds md e = true → e.on ≠ i) → oi.apart ops oj = true) →
      i ∈ Region.ready md ops listed → YieldsK P ops W base oi v a → WholeK P md ops W K f base l (listed.setIfInBounds i true) (a.put oi.dst v) → WholeK P md ops W K (f + 1) base l listed a := by
  intro f
  induction f with
  | zero =>
    intro base l listed a _ hr hy H
    refine ⟨fun h => by rw [h] at hr; simp at hr, fun j hj => ?_⟩
    by_cases e : j = i
    · subst e; exact ⟨oi, hi, .inl ⟨v, hy, H⟩⟩
    · have := ready_mono hj e
      rw [H.1] at this; cases this
  | succ f ih =>
    intro base l listed a hfree hr hy H
    have hun := (mem_ready.1 hr).1
    refine ⟨fun h => by rw [h] at hr; simp at hr, fun j hj => ?_⟩
    by_cases e : j = i
    · subst e; exact ⟨oi, hi, .inl ⟨v, hy, H⟩⟩
    · obtain ⟨hjun, oj, hoj, hall⟩ := mem_ready.1 hj
      have hnot : ∀ e ∈ oj.after, Region.binds md e = true → e.on ≠ i := fun e he hb heq => by
        have := hall e he hb
        rw [heq, getD_both hun] at this
        cases this
      obtain ⟨h1, h2, h3⟩ := Oper.apart_spec (hfree j oj hoj e hjun hnot)
      have hsi := fun cs b => hsel i oi cs b hi
      have hsj := fun cs b => hsel j oj cs b hoj
      have keep : ∀ u, YieldsK P ops W base oi v (a.put oj.dst u) := fun u => hy.of_same (execOp_put oi hsi a oj.dst u h3) (wanted_put oi a oj.dst u h3)
      have hfree' : ∀ k ok, ops[k]? = some ok → k ≠ i → (listed.setIfInBounds j true).getD k true = false →
          (∀ e ∈ ok.after, Region.binds md e = true → e.on ≠ i) → oi.apart ops ok = true := fun k ok hk hki hun hno => by
        refine hfree k ok hk hki ?_ hno
        by_cases hjk : j = k
        · subst hjk; exact hjun
        · rw [getD_set_ne true hjk] at hun; exact hun
      obtain ⟨o', ho', h⟩ := H.2 j (ready_mono hj e)
      obtain rfl : o' = oj := Option.some.inj (ho'.symm.trans hoj)
      refine ⟨o', hoj, ?_⟩
      rcases h with ⟨u, hu, h⟩ | h
      · refine .inl ⟨u, hu.of_same (execOp_put o' hsj a oi.dst v h1).symm (wanted_put o' a oi.dst v h1).symm, ih _ _ _ _ hfree' (ready_mono hr (Ne.symm e)) (keep _) ?_⟩
        rw [Array.setIfInBounds_comm _ _ e, ← Act.put_comm a v _ h2]
        exact h
      · refine .inr ((h.of_same (execOp_put o' hsj a oi.dst v h1).symm (wanted_put o' a oi.dst v h1).symm).mono fun l' u ⟨base', hb1, hb2, h⟩ => ⟨base', hb1, hb2, ih _ _ _ _ hfree' (ready_mono hr (Ne.symm e)) ((keep _).more hb1) ?_⟩)
        rw [Array.setIfInBounds_comm _ _ e, ← Act.put_comm a v _ h2]
        exact h
/-- The walk in an order of one's own. -/
def wpK (P : Program) (ops : Array Oper) (W : World) (loud : List Nat) (K : List Thing → Act → Prop) : List Nat → List Thing → List Thing → Act → Prop
  | [], base, l, a => K l a
  | k :: ks, base, l, a => ∃ o, ops[k]? = some o ∧ if loud.contains k then LoudK P ops W o l a fun l' u => ∃ base', Keeps base base' ∧ Keeps base' l' ∧ wpK P ops W loud K ks base' l' (a.put o.dst u)
      else ∃ v, YieldsK P ops W base o v a ∧ wpK P ops W loud K ks base l (a.put o.dst v)
theorem WholeK.lexO {loud : List Nat} {K : List Thing → Act → Prop} (hsel : Region.noSelect ops = true) :
    ∀ (ks : List Nat) (base l : List Thing) (listed : Array Bool) (a : Act), Region.lexO md ops loud ks listed = true → wpK P ops W loud K ks base l a → WholeK P md ops W K ks.length base l listed a := by
  intro ks
  induction ks with
  | nil => intro base l listed a hB h; exact ⟨by simpa [Region.lexO] using hB, h⟩
  | cons k ks ih =>
    intro base l listed a hB h
    obtain ⟨o, h0, h⟩ := h
    rw [Region.lexO] at hB
    simp only [Bool.and_eq_true] at hB
    obtain ⟨hB, hB'⟩ := hB
    by_cases hk : loud.contains k = true
    · rw [if_pos hk] at h hB
      have hr : Region.ready md ops listed = [k] := by simpa using hB
      refine ⟨by rw [hr]; simp, fun i hi => ?_⟩
      rw [hr] at hi
      obtain rfl : i = k := by simpa using hi
      exact ⟨o, h0, .inr (h.mono fun l' u ⟨base', h1, h2, h⟩ => ⟨base', h1, h2, ih _ _ _ _ hB' h⟩)⟩
    · rw [if_neg hk] at h hB
      simp only [Bool.and_eq_true] at hB
      obtain ⟨v, hy, h⟩ := h
      exact WholeK.first h0 (Region.noSelect_spec hsel) ks.length base l listed a (Region.free_spec h0 hB.2) (by simpa using hB.1) hy (ih _ _ _ _ hB' h)
theorem wp_region_K {id : Nat} {Q : Exit → Act → World → Prop} {a : Act} {w : World} {l : List Thing} {lo : List Oper} (loud ord : List Nat) (base : List Thing) (H : Heap W l w) (hG : Keeps base l) (hm : P.follows .mixedOrders = true) (hB : Region.lexOB lo.toArray loud ord = true)
    (h : wpK P lo.toArray W loud (fun l' a' => ∀ w', Heap W l' w' → Q .normal a' w') ord base l a) : (Code.region id lo.toArray true).wp P Q a w := by
  simp only [Region.lexOB, Bool.and_eq_true, beq_iff_eq] at hB
  refine wp_region_any hm ?_
  have := WholeK.lexO (md := .any) hB.1.1 ord base l _ a hB.1.2 h
  have h2 := WholeK.any (Q := Q) (fun l a w H h => h w H) ord.length base l _ a _ hG H.drew this
  rw [hB.2] at h2
  exact h2
theorem wpK_nil {loud : List Nat} {K : List Thing → Act → Prop} {base l : List Thing} {a : Act} (h : K l a) : wpK P ops W loud K [] base l a := h
theorem wpK_step {lo : List Oper} {loud : List Nat} {K : List Thing → Act → Prop} {o : Oper} {k : Nat} {ks : List Nat} {base l : List Thing} {a : Act} {s : Nat} {v : Value} (ho : lo[k]? = some o) (hk : loud.contains k = false) (hd : o.dst = some s) (hlt : s < a.tmps.size)
    (h1 : ∀ l0, Keeps base l0 → ∀ (w0 : World) (H0 : Heap W l0 w0), wpQuiet P lo.toArray (fun w' => ∃ d, w' = H0.any d) (fun a' => a'.tmps.getD s undef = v) [o] a) (h2 : wpK P lo.toArray W loud K ks base l (a.put o.dst v)) : wpK P lo.toArray W loud K (k :: ks) base l a := by
  have inj : ∀ u, (a.put o.dst u).tmps.getD s undef = v → u = v := fun u h => by
    rw [hd] at h
    simp [Act.put, hlt] at h
    exact h
  refine ⟨o, by simpa using ho, ?_⟩
  rw [if_neg (by rw [hk]; exact Bool.false_ne_true)]
  refine ⟨v, fun l0 hl0 w0 H0 => ?_, h2⟩
  have h := h1 l0 hl0 w0 H0
  unfold wpQuiet at h
  by_cases hw : Region.wanted o (yielded lo.toArray a.tmps) = true
  · rw [if_pos hw] at h
    obtain ⟨u, hu, hk⟩ := h
    obtain rfl := inj u hk
    exact .inl ⟨hw, hu⟩
  · rw [if_neg hw] at h
    exact .inr ⟨by simpa using hw, (inj undef h).symm⟩
theorem wpK_loud {lo : List Oper} {loud : List Nat} {K : List Thing → Act → Prop} {o : Oper} {k : Nat} {ks : List Nat} {base l : List Thing} {a : Act} (ho : lo[k]? = some o) (hk : loud.contains k = true) (h : LoudK P lo.toArray W o l a fun l' u => ∃ base', Keeps base base' ∧ Keeps base' l' ∧ wpK P lo.toArray W loud K ks base' l' (a.put o.dst u)) : wpK P lo.toArray W loud K (k :: ks) base l a := by
  refine ⟨o, by simpa using ho, ?_⟩
  rw [if_pos hk]
  exact h
/-- A call, by what it does: in the end 'base' may grow. -/
theorem wpK_call {lo : List Oper} {loud : List Nat} {K : List Thing → Act → Prop} {k : Nat} {ks : List Nat} {base l : List Thing} {a : Act} {dst : Option Tmp} {ty : TypeId} {pos : String} {after : Array Edge} {guard : Option (Nat × Bool)} {f : FuncId} {xs : Array Operand} {ats : Array TypeId} {argl : List Value}
    (ho : lo[k]? = some ⟨dst, .call { callee := .value (.func f), args := xs, argTypes := ats }, ty, pos, after, guard⟩) (hk : loud.contains k = true) (hw : Region.wanted ⟨dst, .call { callee := .value (.func f), args := xs, argTypes := ats }, ty, pos, after, guard⟩ (yielded lo.toArray a.tmps) = true)
    (hf : ∀ args w, (callFunc f args).run P w = .ok (.enter f args) w) (ha : xs.toList.map a.eval = argl)
    (hc : ∀ w, Heap W l w → Calls P f argl.toArray w fun e w' => ∃ l' u, e = .returned u ∧ Heap W l' w' ∧ ∃ base', Keeps base base' ∧ Keeps base' l' ∧ wpK P lo.toArray W loud K ks base' l' (a.put dst u)) : wpK P lo.toArray W loud K (k :: ks) base l a := by
  refine wpK_loud ho hk ⟨hw, fun w H => .inr ⟨f, argl.toArray, w, ?_, hc w H⟩⟩
  have e : #[] ++ xs.map a.eval ++ #[] = argl.toArray := by subst ha; apply Array.ext'; simp
  rw [execOp_call_go, e]
  exact hf _ w
theorem Keeps.refl (l : List Thing) : Keeps l l := fun _ h => h
end
end Go.Proofs.Ytjipelhcgglhhaa
