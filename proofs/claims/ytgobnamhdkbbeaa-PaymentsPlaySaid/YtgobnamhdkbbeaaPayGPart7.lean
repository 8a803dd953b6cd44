/- Part 7 of what several laws stand on: HeapEarly, HeapSoft, SameF, Play05, Route7, Short0. -/
import Derived.Test.YtgobnamhdkbbeaaPayGPart6
import Derived.Laws.StructEq
import Derived.WalkKit
import Derived.OwnWalkIn
import Derived.TacticsInMore
import Derived.LoopNIn
import Derived.LoopIn
/- A region that draws its order, with loud operations in one order, whose reads may be of what the loud ones change: a read that every loud one stands behind reads the things as they are (a swap: s[i], s[j] = s[j], s[i]). -/
namespace Go.Proofs.Ytgobnamhdkbbeaa
open Go.RowKit
set_option linter.unusedVariables false
section
variable {P : Program} {ops : Array Oper} {md : Region.Mode} {W : World} {G : List Thing → Prop} {loud : List Nat}
def WholeE (P : Program) (md : Region.Mode) (ops : Array Oper) (W : World) (G : List Thing → Prop) (loud : List Nat) (K : List Thing → Act → Prop) : Nat → List Thing → Array Bool → Act → Prop
  | 0, l, listed, a => Region.ready md ops listed = [] ∧ K l a
  | f + 1, l, listed, a => Region.ready md ops listed ≠ [] ∧ ∀ i ∈ Region.ready md ops listed, ∃ o, ops[i]? = some o ∧
      ((∃ v, YieldsG P ops W (fun l' => l' = l) o v a ∧ WholeE P md ops W G loud K f l (listed.setIfInBounds i true) (a.put o.dst v)) ∨
       (loud.contains i = true ∧ LoudG P ops W o l a fun l' u => G l' ∧ WholeE P md ops W G loud K f l' (listed.setIfInBounds i true) (a.put o.dst u)))
theorem WholeE.any {K : List Thing → Act → Prop} {Q : Exit → Act → World → Prop} (hK : ∀ l a w, Heap W l w → K l a → Q .normal a w) :
    ∀ (f : Nat) (l : List Thing) (listed : Array Bool) (a : Act) (w : World), Heap W l w → WholeE P md ops W G loud K f l listed a → wpAny P md ops Q f listed a w := by
  intro f
  induction f with
  | zero => intro l listed a w H h; exact ⟨h.1, hK _ _ _ H h.2⟩
  | succ f ih =>
    intro l listed a w H h
    refine ⟨fun h0 => absurd h0 h.1, fun i hi => ?_⟩
    obtain ⟨o, ho, h⟩ := h.2 i hi
    rcases h with ⟨v, hy, h⟩ | ⟨_, h⟩
    · refine wpOp_of_qOp (C := fun w' => ∃ d, w' = H.any d) (H.any_of H) (fun a' w' hw' ha' => ?_) ((hy l rfl w H).qOp ho (K := fun a' => a' = a.put o.dst v) rfl)
      obtain ⟨d, rfl⟩ := hw'
      subst ha'
      exact ih _ _ _ _ (H.any_heap d) h
    · obtain ⟨l', u, w', hr, H', _, hk⟩ := h.2 w H
      unfold wpOp
      simp only [ho]
      rw [if_pos h.1]
      refine .inl ?_
      unfold Oper.wp
      rcases hr with hr | ⟨hr, rfl⟩ <;> rw [hr] <;> exact ih _ _ _ _ H' hk
/-- Every loud one stands behind it. -/
def Region.early (md : Region.Mode) (ops : Array Oper) (loud : List Nat) (k : Nat) : Bool := loud.all fun j => match ops[j]? with
  | some o => o.after.any fun e => Region.binds md e && e.on == k
  | none => true
theorem Region.early_spec {k j : Nat} {o : Oper} (h : Region.early md ops loud k = true) (hj : loud.contains j = true) (ho : ops[j]? = some o) : ∃ e ∈ o.after, Region.binds md e = true ∧ e.on = k := by
  unfold Region.early at h
  rw [List.all_eq_true] at h
  have := h j (by simpa using hj)
  rw [ho] at this
  simp only [Array.any_eq_true, Bool.and_eq_true, beq_iff_eq] at this
  obtain ⟨i, hi, h1, h2⟩ := this
  exact ⟨o.after[i], Array.getElem_mem hi, h1, h2⟩
/-- It yields v: whatever the things, or early, as they are. -/
def Firm (P : Program) (md : Region.Mode) (ops : Array Oper) (W : World) (G : List Thing → Prop) (loud : List Nat) (k : Nat) (l : List Thing) (o : Oper) (v : Value) (a : Act) : Prop :=
  (G l ∧ YieldsG P ops W G o v a) ∨ (Region.early md ops loud k = true ∧ YieldsG P ops W (fun l' => l' = l) o v a)
theorem Firm.now {k : Nat} {l : List Thing} {o : Oper} {v : Value} {a : Act} (h : Firm P md ops W G loud k l o v a) : YieldsG P ops W (fun l' => l' = l) o v a := by
  rcases h with ⟨hg, h⟩ | ⟨_, h⟩
  · intro l' e w H; subst e; exact h _ hg w H
  · exact h
theorem Firm.of_same {k : Nat} {l : List Thing} {o : Oper} {v : Value} {a a' : Act} (h : Firm P md ops W G loud k l o v a) (he : execOp a'.eval o = execOp a.eval o)
    (hw : Region.wanted o (yielded ops a'.tmps) = Region.wanted o (yielded ops a.tmps)) : Firm P md ops W G loud k l o v a' := by
  rcases h with ⟨hg, h⟩ | ⟨h0, h⟩
  · exact .inl ⟨hg, h.of_same he hw⟩
  · exact .inr ⟨h0, h.of_same he hw⟩
theorem WholeE.first {i : Nat} {oi : Oper} {v : Value} {K : List Thing → Act → Prop} (hi : ops[i]? = some oi) (hsel : ∀ (j : Nat) (o : Oper) cs b, ops[j]? = some o → o.op ≠ .select cs b) :
    ∀ (f : Nat) (l : List Thing) (listed : Array Bool) (a : Act),
      (∀ j oj, ops[j]? = some oj → j ≠ i → listed.getD j true = false → (∀ e ∈ oj.after, Region.binds md e = true → e.on ≠ i) → oi.apart ops oj = true) →
      i ∈ Region.ready md ops listed → Firm P md ops W G loud i l oi v a → WholeE P md ops W G loud K f l (listed.setIfInBounds i true) (a.put oi.dst v) → WholeE P md ops W G loud K (f + 1) l listed a := by
  intro f
  induction f with
  | zero =>
    intro l listed a _ hr hy H
    refine ⟨fun h => by rw [h] at hr; simp at hr, fun j hj => ?_⟩
    by_cases e : j = i
    · subst e; exact ⟨oi, hi, .inl ⟨v, hy.now, H⟩⟩
    · have := ready_mono hj e
      rw [H.1] at this; cases this
  | succ f ih =>
    intro l listed a hfree hr hy H
    have hun := (mem_ready.1 hr).1
    refine ⟨fun h => by rw [h] at hr; simp at hr, fun j hj => ?_⟩
    by_cases e : j = i
    · subst e; exact ⟨oi, hi, .inl ⟨v, hy.now, H⟩⟩
    · obtain ⟨hjun, oj, hoj, hall⟩ := mem_ready.1 hj
      have hnot : ∀ e ∈ oj.after, Region.binds md e = true → e.on ≠ i := fun e he hb heq => by
        have := hall e he hb
        rw [heq, getD_both hun] at this
        cases this
      obtain ⟨h1, h2, h3⟩ := Oper.apart_spec (hfree j oj hoj e hjun hnot)
      have hsi := fun cs b => hsel i oi cs b hi
      have hsj := fun cs b => hsel j oj cs b hoj
      have hfree' : ∀ k ok, ops[k]? = some ok → k ≠ i → (listed.setIfInBounds j true).getD k true = false →
          (∀ e ∈ ok.after, Region.binds md e = true → e.on ≠ i) → oi.apart ops ok = true := fun k ok hk hki hun hno => by
        refine hfree k ok hk hki ?_ hno
        by_cases hjk : j = k
        · subst hjk; exact hjun
        · rw [getD_set_ne true hjk] at hun; exact hun
      obtain ⟨o', ho', h⟩ := H.2 j (ready_mono hj e)
      obtain rfl : o' = oj := Option.some.inj (ho'.symm.trans hoj)
      refine ⟨o', hoj, ?_⟩
      rcases h with ⟨u, hu, h⟩ | ⟨hl, h⟩
      · refine .inl ⟨u, hu.of_same (execOp_put o' hsj a oi.dst v h1).symm (wanted_put o' a oi.dst v h1).symm, ih _ _ _ hfree' (ready_mono hr (Ne.symm e)) (hy.of_same (execOp_put oi hsi a o'.dst u h3) (wanted_put oi a o'.dst u h3)) ?_⟩
        rw [Array.setIfInBounds_comm _ _ e, ← Act.put_comm a v _ h2]
        exact h
      · rcases hy with ⟨hg, hy⟩ | ⟨he, _⟩
        · refine .inr ⟨hl, (h.of_same (execOp_put o' hsj a oi.dst v h1).symm (wanted_put o' a oi.dst v h1).symm).mono fun l' u ⟨hg', h⟩ => ⟨hg', ih _ _ _ hfree' (ready_mono hr (Ne.symm e)) (.inl ⟨hg', hy.of_same (execOp_put oi hsi a o'.dst u h3) (wanted_put oi a o'.dst u h3)⟩) ?_⟩⟩
          rw [Array.setIfInBounds_comm _ _ e, ← Act.put_comm a v _ h2]
          exact h
        · obtain ⟨ed, hed, hb, hon⟩ := Region.early_spec he hl hoj
          exact absurd hon (hnot ed hed hb)
/-- The walk in an order of one's own. -/
def wpE (P : Program) (ops : Array Oper) (W : World) (G : List Thing → Prop) (loud : List Nat) (K : List Thing → Act → Prop) : List Nat → List Thing → Act → Prop
  | [], l, a => K l a
  | k :: ks, l, a => ∃ o, ops[k]? = some o ∧ if loud.contains k then LoudG P ops W o l a fun l' u => G l' ∧ wpE P ops W G loud K ks l' (a.put o.dst u)
      else ∃ v, Firm P .any ops W G loud k l o v a ∧ wpE P ops W G loud K ks l (a.put o.dst v)
theorem WholeE.lexO {K : List Thing → Act → Prop} (hsel : Region.noSelect ops = true) :
    ∀ (ks : List Nat) (l : List Thing) (listed : Array Bool) (a : Act), Region.lexO .any ops loud ks listed = true → wpE P ops W G loud K ks l a → WholeE P .any ops W G loud K ks.length l listed a := by
  intro ks
  induction ks with
  | nil => intro l listed a hB h; exact ⟨by simpa [Region.lexO] using hB, h⟩
  | cons k ks ih =>
    intro l listed a hB h
    obtain ⟨o, h0, h⟩ := h
    rw [Region.lexO] at hB
    simp only [Bool.and_eq_true] at hB
    obtain ⟨hB, hB'⟩ := hB
    by_cases hk : loud.contains k = true
    · rw [if_pos hk] at h hB
      have hr : Region.ready .any ops listed = [k] := by simpa using hB
      refine ⟨by rw [hr]; simp, fun i hi => ?_⟩
      rw [hr] at hi
      obtain rfl : i = k := by simpa using hi
      exact ⟨o, h0, .inr ⟨hk, h.mono fun l' u ⟨hg, h⟩ => ⟨hg, ih _ _ _ hB' h⟩⟩⟩
    · rw [if_neg hk] at h hB
      simp only [Bool.and_eq_true] at hB
      obtain ⟨v, hy, h⟩ := h
      exact WholeE.first h0 (Region.noSelect_spec hsel) ks.length l listed a (Region.free_spec h0 hB.2) (by simpa using hB.1) hy (ih _ _ _ hB' h)
theorem wp_region_E {id : Nat} {Q : Exit → Act → World → Prop} {a : Act} {w : World} {l : List Thing} {lo : List Oper} (loud ord : List Nat) (G : List Thing → Prop) (H : Heap W l w) (hm : P.follows .mixedOrders = true) (hB : Region.lexOB lo.toArray loud ord = true)
    (h : wpE P lo.toArray W G loud (fun l' a' => ∀ w', Heap W l' w' → Q .normal a' w') ord l a) : (Code.region id lo.toArray true).wp P Q a w := by
  simp only [Region.lexOB, Bool.and_eq_true, beq_iff_eq] at hB
  refine wp_region_any hm ?_
  have := WholeE.lexO hB.1.1 ord l _ a hB.1.2 h
  have h2 := WholeE.any (Q := Q) (fun l a w H h => h w H) ord.length l _ a _ H.drew this
  rw [hB.2] at h2
  exact h2
theorem wpE_nil {K : List Thing → Act → Prop} {l : List Thing} {a : Act} (h : K l a) : wpE P ops W G loud K [] l a := h
theorem yields_of {G' : List Thing → Prop} {lo : List Oper} {o : Oper} {a : Act} {s : Nat} {v : Value} (hd : o.dst = some s) (hlt : s < a.tmps.size)
    (h1 : ∀ l0, G' l0 → ∀ (w0 : World) (H0 : Heap W l0 w0), wpQuiet P lo.toArray (fun w' => ∃ d, w' = H0.any d) (fun a' => a'.tmps.getD s undef = v) [o] a) : YieldsG P lo.toArray W G' o v a := by
  have inj : ∀ u, (a.put o.dst u).tmps.getD s undef = v → u = v := fun u h => by
    rw [hd] at h
    simp [Act.put, hlt] at h
    exact h
  intro l0 hl0 w0 H0
  have h := h1 l0 hl0 w0 H0
  unfold wpQuiet at h
  by_cases hw : Region.wanted o (yielded lo.toArray a.tmps) = true
  · rw [if_pos hw] at h
    obtain ⟨u, hu, hk⟩ := h
    obtain rfl := inj u hk
    exact .inl ⟨hw, hu⟩
  · rw [if_neg hw] at h
    exact .inr ⟨by simpa using hw, (inj undef h).symm⟩
/-- A quiet one that reads nothing of the things. -/
theorem wpE_step {lo : List Oper} {K : List Thing → Act → Prop} {o : Oper} {k : Nat} {ks : List Nat} {l : List Thing} {a : Act} {s : Nat} {v : Value} (ho : lo[k]? = some o) (hk : loud.contains k = false) (hd : o.dst = some s) (hlt : s < a.tmps.size)
    (h1 : ∀ l0, True → ∀ (w0 : World) (H0 : Heap W l0 w0), wpQuiet P lo.toArray (fun w' => ∃ d, w' = H0.any d) (fun a' => a'.tmps.getD s undef = v) [o] a) (h2 : wpE P lo.toArray W (fun _ => True) loud K ks l (a.put o.dst v)) : wpE P lo.toArray W (fun _ => True) loud K (k :: ks) l a := by
  refine ⟨o, by simpa using ho, ?_⟩
  rw [if_neg (by rw [hk]; exact Bool.false_ne_true)]
  exact ⟨v, .inl ⟨trivial, yields_of hd hlt h1⟩, h2⟩
/-- An early read. -/
theorem wpE_early {lo : List Oper} {K : List Thing → Act → Prop} {o : Oper} {k : Nat} {ks : List Nat} {l : List Thing} {a : Act} {s : Nat} {v : Value} (ho : lo[k]? = some o) (hk : loud.contains k = false) (he : Region.early .any lo.toArray loud k = true) (hd : o.dst = some s) (hlt : s < a.tmps.size)
    (h1 : ∀ (w0 : World) (H0 : Heap W l w0), wpQuiet P lo.toArray (fun w' => ∃ d, w' = H0.any d) (fun a' => a'.tmps.getD s undef = v) [o] a) (h2 : wpE P lo.toArray W G loud K ks l (a.put o.dst v)) : wpE P lo.toArray W G loud K (k :: ks) l a := by
  refine ⟨o, by simpa using ho, ?_⟩
  rw [if_neg (by rw [hk]; exact Bool.false_ne_true)]
  exact ⟨v, .inr ⟨he, yields_of hd hlt fun l0 e w0 H0 => by subst e; exact h1 w0 H0⟩, h2⟩
theorem wpE_loud {lo : List Oper} {K : List Thing → Act → Prop} {o : Oper} {k : Nat} {ks : List Nat} {l : List Thing} {a : Act} (ho : lo[k]? = some o) (hk : loud.contains k = true) (h : LoudG P lo.toArray W o l a fun l' u => G l' ∧ wpE P lo.toArray W G loud K ks l' (a.put o.dst u)) : wpE P lo.toArray W G loud K (k :: ks) l a := by
  refine ⟨o, by simpa using ho, ?_⟩
  rw [if_pos hk]
  exact h
end
section
variable {ops : Array Oper} {W : World} {loud : List Nat} {K : List Thing → Act → Prop} {l : List Thing} {a : Act}
theorem wpE_storeC {lo : List Oper} {ks : List Nat} {k : Nat} {T : TypeId} {dst : Option Tmp} {ty : TypeId} {pos : String} {after : Array Edge} {guard : Option (Nat × Bool)} {x y : Operand} {b off : Nat} {v : Value} (CT : CellTy T) (ho : lo[k]? = some ⟨dst, .store T x y, ty, pos, after, guard⟩) (hk : loud.contains k = true) (hw : Region.wanted ⟨dst, .store T x y, ty, pos, after, guard⟩ (yielded lo.toArray a.tmps) = true) (hx : a.eval x = .pointer (some ⟨b, off, none⟩)) (hy : a.eval y = v) (hc : v.cells = #[v] ∧ v.oneCell' = true)
    {c c1 : Array Value} {t : TypeId} {l' : List Thing} (m : Cel b c t ∈ l) (hn : off < c.size) (hs : c.setIfInBounds off v = c1) (r : Repl l (Cel b c t) (Cel b c1 t) l')
    (h : wpE Try.prog lo.toArray W (fun _ => True) loud K ks l' (a.put dst undef)) : wpE Try.prog lo.toArray W (fun _ => True) loud K (k :: ks) l a := by
  subst hs
  refine wpE_loud ho hk ⟨hw, fun w H => ⟨l', undef, setBlk w b (c.setIfInBounds off v), .inr ⟨?_, rfl⟩, H.set r, trivial, h⟩⟩
  unfold execOp
  simp only [hx, hy, Sem.run_bind, run_storeC CT hc (H.blk m) hn, Result.andThen_ok]
  rfl
theorem wpE_storeI {lo : List Oper} {ks : List Nat} {k : Nat} {T : TypeId} {dst : Option Tmp} {ty : TypeId} {pos : String} {after : Array Edge} {guard : Option (Nat × Bool)} {x y : Operand} {b off : Nat} {k0 : IntKind} {n0 : Int} (CT : CellTy T) (ho : lo[k]? = some ⟨dst, .store T x y, ty, pos, after, guard⟩) (hk : loud.contains k = true) (hw : Region.wanted ⟨dst, .store T x y, ty, pos, after, guard⟩ (yielded lo.toArray a.tmps) = true) (hx : a.eval x = .pointer (some ⟨b, off, none⟩)) (hy : a.eval y = .int k0 n0)
    {c c1 : Array Value} {t : TypeId} {l' : List Thing} (m : Cel b c t ∈ l) (hn : off < c.size) (hs : c.setIfInBounds off (.int k0 n0) = c1) (r : Repl l (Cel b c t) (Cel b c1 t) l')
    (h : wpE Try.prog lo.toArray W (fun _ => True) loud K ks l' (a.put dst undef)) : wpE Try.prog lo.toArray W (fun _ => True) loud K (k :: ks) l a := wpE_storeC CT ho hk hw hx hy ⟨rfl, rfl⟩ m hn hs r h
end
end Go.Proofs.Ytgobnamhdkbbeaa

/- A region that draws its order, with loud operations of two kinds: soft ones (that leave what an early read reads) and hard ones (each stands behind each early read); in a round too. -/
namespace Go.Proofs.Ytgobnamhdkbbeaa
open Go.RowKit
set_option linter.unusedVariables false
section
variable {P : Program} {ops : Array Oper} {md : Region.Mode} {W : World} {G E : List Thing → Prop} {loud hard : List Nat}
def WholeF (P : Program) (md : Region.Mode) (ops : Array Oper) (W : World) (G E : List Thing → Prop) (loud hard : List Nat) (K : List Thing → Act → Prop) : Nat → List Thing → Array Bool → Act → Prop
  | 0, l, listed, a => Region.ready md ops listed = [] ∧ K l a
  | f + 1, l, listed, a => Region.ready md ops listed ≠ [] ∧ ∀ i ∈ Region.ready md ops listed, ∃ o, ops[i]? = some o ∧
      ((∃ v, YieldsG P ops W (fun l' => l' = l) o v a ∧ WholeF P md ops W G E loud hard K f l (listed.setIfInBounds i true) (a.put o.dst v)) ∨
       (loud.contains i = true ∧ LoudG P ops W o l a fun l' u => G l' ∧ (hard.contains i = false → E l → E l') ∧ WholeF P md ops W G E loud hard K f l' (listed.setIfInBounds i true) (a.put o.dst u)))
theorem WholeF.any {K : List Thing → Act → Prop} {Q : Exit → Act → World → Prop} (hK : ∀ l a w, Heap W l w → K l a → Q .normal a w) :
    ∀ (f : Nat) (l : List Thing) (listed : Array Bool) (a : Act) (w : World), Heap W l w → WholeF P md ops W G E loud hard K f l listed a → wpAny P md ops Q f listed a w := by
  intro f
  induction f with
  | zero => intro l listed a w H h; exact ⟨h.1, hK _ _ _ H h.2⟩
  | succ f ih =>
    intro l listed a w H h
    refine ⟨fun h0 => absurd h0 h.1, fun i hi => ?_⟩
    obtain ⟨o, ho, h⟩ := h.2 i hi
    rcases h with ⟨v, hy, h⟩ | ⟨_, h⟩
    · refine wpOp_of_qOp (C := fun w' => ∃ d, w' = H.any d) (H.any_of H) (fun a' w' hw' ha' => ?_) ((hy l rfl w H).qOp ho (K := fun a' => a' = a.put o.dst v) rfl)
      obtain ⟨d, rfl⟩ := hw'
      subst ha'
      exact ih _ _ _ _ (H.any_heap d) h
    · obtain ⟨l', u, w', hr, H', _, _, hk⟩ := h.2 w H
      unfold wpOp
      simp only [ho]
      rw [if_pos h.1]
      refine .inl ?_
      unfold Oper.wp
      rcases hr with hr | ⟨hr, rfl⟩ <;> rw [hr] <;> exact ih _ _ _ _ H' hk
/-- It yields v: whatever the things, or early, as they are. -/
def FirmF (P : Program) (md : Region.Mode) (ops : Array Oper) (W : World) (G E : List Thing → Prop) (loud hard : List Nat) (k : Nat) (l : List Thing) (o : Oper) (v : Value) (a : Act) : Prop :=
  (G l ∧ YieldsG P ops W G o v a) ∨ (Region.early md ops hard k = true ∧ E l ∧ YieldsG P ops W E o v a)
theorem FirmF.now {k : Nat} {l : List Thing} {o : Oper} {v : Value} {a : Act} (h : FirmF P md ops W G E loud hard k l o v a) : YieldsG P ops W (fun l' => l' = l) o v a := by
  rcases h with ⟨hg, h⟩ | ⟨_, hg, h⟩
  · intro l' e w H; subst e; exact h _ hg w H
  · intro l' e w H; subst e; exact h _ hg w H
theorem FirmF.of_same {k : Nat} {l : List Thing} {o : Oper} {v : Value} {a a' : Act} (h : FirmF P md ops W G E loud hard k l o v a) (he : execOp a'.eval o = execOp a.eval o)
    (hw : Region.wanted o (yielded ops a'.tmps) = Region.wanted o (yielded ops a.tmps)) : FirmF P md ops W G E loud hard k l o v a' := by
  rcases h with ⟨hg, h⟩ | ⟨h0, hg, h⟩
  · exact .inl ⟨hg, h.of_same he hw⟩
  · exact .inr ⟨h0, hg, h.of_same he hw⟩
theorem WholeF.first {i : Nat} {oi : Oper} {v : Value} {K : List Thing → Act → Prop} (hi : ops[i]? = some oi) (hsel : ∀ (j : Nat) (o : Oper) cs b, ops[j]? = some o → o.op ≠ .select cs b) :
    ∀ (f : Nat) (l : List Thing) (listed : Array Bool) (a : Act),
      (∀ j oj, ops[j]? = some oj → j ≠ i → listed.getD j true = false → (∀ e ∈ oj.after, Region.binds md e = true → e.on ≠ i) → oi.apart ops oj = true) →
      i ∈ Region.ready md ops listed → FirmF P md ops W G E loud hard i l oi v a → WholeF P md ops W G E loud hard K f l (listed.setIfInBounds i true) (a.put oi.dst v) → WholeF P md ops W G E loud hard K (f + 1) l listed a := by
  intro f
  induction f with
  | zero =>
    intro l listed a _ hr hy H
    refine ⟨fun h => by rw [h] at hr; simp at hr, fun j hj => ?_⟩
    by_cases e : j = i
    · subst e; exact ⟨oi, hi, .inl ⟨v, hy.now, H⟩⟩
    · have := ready_mono hj e
      rw [H.1] at this; cases this
  | succ f ih =>
    intro l listed a hfree hr hy H
    have hun := (mem_ready.1 hr).1
    refine ⟨fun h => by rw [h] at hr; simp at hr, fun j hj => ?_⟩
    by_cases e : j = i
    · subst e; exact ⟨oi, hi, .inl ⟨v, hy.now, H⟩⟩
    · obtain ⟨hjun, oj, hoj, hall⟩ := mem_ready.1 hj
      have hnot : ∀ e ∈ oj.after, Region.binds md e = true → e.on ≠ i := fun e he hb heq => by
        have := hall e he hb
        rw [heq, getD_both hun] at this
        cases this
      obtain ⟨h1, h2, h3⟩ := Oper.apart_spec (hfree j oj hoj e hjun hnot)
      have hsi := fun cs b => hsel i oi cs b hi
      have hsj := fun cs b => hsel j oj cs b hoj
      have hfree' : ∀ k ok, ops[k]? = some ok → k ≠ i → (listed.setIfInBounds j true).getD k true = false →
          (∀ e ∈ ok.after, Region.binds md e = true → e.on ≠ i) → oi.apart ops ok = true := fun k ok hk hki hun hno => by
        refine hfree k ok hk hki ?_ hno
        by_cases hjk : j = k
        · subst hjk; exact hjun
        · rw [getD_set_ne true hjk] at hun; exact hun
      obtain ⟨o', ho', h⟩ := H.2 j (ready_mono hj e)
      obtain rfl : o' = oj := Option.some.inj (ho'.symm.trans hoj)
      refine ⟨o', hoj, ?_⟩
      rcases h with ⟨u, hu, h⟩ | ⟨hl, h⟩
      · refine .inl ⟨u, hu.of_same (execOp_put o' hsj a oi.dst v h1).symm (wanted_put o' a oi.dst v h1).symm, ih _ _ _ hfree' (ready_mono hr (Ne.symm e)) (hy.of_same (execOp_put oi hsi a o'.dst u h3) (wanted_put oi a o'.dst u h3)) ?_⟩
        rw [Array.setIfInBounds_comm _ _ e, ← Act.put_comm a v _ h2]
        exact h
      · refine .inr ⟨hl, (h.of_same (execOp_put o' hsj a oi.dst v h1).symm (wanted_put o' a oi.dst v h1).symm).mono fun l' u ⟨hg', hs', h⟩ => ⟨hg', hs', ih _ _ _ hfree' (ready_mono hr (Ne.symm e)) ?_ ?_⟩⟩
        · rcases hy with ⟨hg, hy⟩ | ⟨he, hE, hy⟩
          · exact .inl ⟨hg', hy.of_same (execOp_put oi hsi a o'.dst u h3) (wanted_put oi a o'.dst u h3)⟩
          · by_cases hh : hard.contains j = true
            · obtain ⟨ed, hed, hb, hon⟩ := Region.early_spec he hh hoj
              exact absurd hon (hnot ed hed hb)
            · exact .inr ⟨he, hs' (by simpa using hh) hE, hy.of_same (execOp_put oi hsi a o'.dst u h3) (wanted_put oi a o'.dst u h3)⟩
        · rw [Array.setIfInBounds_comm _ _ e, ← Act.put_comm a v _ h2]
          exact h
/-- The walk in an order of one's own. -/
def wpF (P : Program) (ops : Array Oper) (W : World) (G E : List Thing → Prop) (loud hard : List Nat) (K : List Thing → Act → Prop) : List Nat → List Thing → Act → Prop
  | [], l, a => K l a
  | k :: ks, l, a => ∃ o, ops[k]? = some o ∧ if loud.contains k then LoudG P ops W o l a fun l' u => G l' ∧ (hard.contains k = false → E l → E l') ∧ wpF P ops W G E loud hard K ks l' (a.put o.dst u)
      else ∃ v, FirmF P .any ops W G E loud hard k l o v a ∧ wpF P ops W G E loud hard K ks l (a.put o.dst v)
theorem WholeF.lexO {K : List Thing → Act → Prop} (hsel : Region.noSelect ops = true) :
    ∀ (ks : List Nat) (l : List Thing) (listed : Array Bool) (a : Act), Region.lexO .any ops loud ks listed = true → wpF P ops W G E loud hard K ks l a → WholeF P .any ops W G E loud hard K ks.length l listed a := by
  intro ks
  induction ks with
  | nil => intro l listed a hB h; exact ⟨by simpa [Region.lexO] using hB, h⟩
  | cons k ks ih =>
    intro l listed a hB h
    obtain ⟨o, h0, h⟩ := h
    rw [Region.lexO] at hB
    simp only [Bool.and_eq_true] at hB
    obtain ⟨hB, hB'⟩ := hB
    by_cases hk : loud.contains k = true
    · rw [if_pos hk] at h hB
      have hr : Region.ready .any ops listed = [k] := by simpa using hB
      refine ⟨by rw [hr]; simp, fun i hi => ?_⟩
      rw [hr] at hi
      obtain rfl : i = k := by simpa using hi
      exact ⟨o, h0, .inr ⟨hk, h.mono fun l' u ⟨hg, hs, h⟩ => ⟨hg, hs, ih _ _ _ hB' h⟩⟩⟩
    · rw [if_neg hk] at h hB
      simp only [Bool.and_eq_true] at hB
      obtain ⟨v, hy, h⟩ := h
      exact WholeF.first h0 (Region.noSelect_spec hsel) ks.length l listed a (Region.free_spec h0 hB.2) (by simpa using hB.1) hy (ih _ _ _ hB' h)
theorem wp_region_F {id : Nat} {Q : Exit → Act → World → Prop} {a : Act} {w : World} {l : List Thing} {lo : List Oper} (loud hard ord : List Nat) (G E : List Thing → Prop) (H : Heap W l w) (hm : P.follows .mixedOrders = true) (hB : Region.lexOB lo.toArray loud ord = true)
    (h : wpF P lo.toArray W G E loud hard (fun l' a' => ∀ w', Heap W l' w' → Q .normal a' w') ord l a) : (Code.region id lo.toArray true).wp P Q a w := by
  simp only [Region.lexOB, Bool.and_eq_true, beq_iff_eq] at hB
  refine wp_region_any hm ?_
  have := WholeF.lexO hB.1.1 ord l _ a hB.1.2 h
  have h2 := WholeF.any (Q := Q) (fun l a w H h => h w H) ord.length l _ a _ H.drew this
  rw [hB.2] at h2
  exact h2
theorem wpF_nil {K : List Thing → Act → Prop} {l : List Thing} {a : Act} (h : K l a) : wpF P ops W G E loud hard K [] l a := h
theorem region_in_F {ro : Option Nat} {n : Nat} {id : Nat} {Q : Exit → Act → World → Prop} {a : Act} {w : World} {l : List Thing} {lo : List Oper} (loud hard ord : List Nat) (G E : List Thing → Prop) (H : Heap W l w) (hm : P.follows .mixedOrders = true) (hd : noDefer lo = true) (hQ : ¬ LetsOut Q) (hB : Region.lexOB lo.toArray loud ord = true)
    (h : wpF P lo.toArray W G E loud hard (fun l' a' => ∀ w', Heap W l' w' → Q .normal a' w') ord l a) : (Code.region id lo.toArray true).wpIn (WR ro) n P Q a w := by
  simp only [Region.lexOB, Bool.and_eq_true, beq_iff_eq] at hB
  refine region_in_any hm hd hQ ?_
  have := WholeF.lexO hB.1.1 ord l _ a hB.1.2 h
  have h2 := WholeF.any (Q := Q) (fun l a w H h => h w H) ord.length l _ a _ H.drew this
  rw [hB.2] at h2
  simpa using h2
/-- A quiet one, whatever the things that stay. -/
theorem wpF_step {lo : List Oper} {K : List Thing → Act → Prop} {o : Oper} {k : Nat} {ks : List Nat} {l : List Thing} {a : Act} {s : Nat} {v : Value} (ho : lo[k]? = some o) (hk : loud.contains k = false) (hd : o.dst = some s) (hlt : s < a.tmps.size) (hG : G l)
    (h1 : ∀ l0, G l0 → ∀ (w0 : World) (H0 : Heap W l0 w0), wpQuiet P lo.toArray (fun w' => ∃ d, w' = H0.any d) (fun a' => a'.tmps.getD s undef = v) [o] a) (h2 : wpF P lo.toArray W G E loud hard K ks l (a.put o.dst v)) : wpF P lo.toArray W G E loud hard K (k :: ks) l a := by
  refine ⟨o, by simpa using ho, ?_⟩
  rw [if_neg (by rw [hk]; exact Bool.false_ne_true)]
  exact ⟨v, .inl ⟨hG, yields_of hd hlt h1⟩, h2⟩
/-- A read of what a hard one changes: ahead of it. -/
theorem wpF_early {lo : List Oper} {K : List Thing → Act → Prop} {o : Oper} {k : Nat} {ks : List Nat} {l : List Thing} {a : Act} {s : Nat} {v : Value} (ho : lo[k]? = some o) (hk : loud.contains k = false) (he : Region.early .any lo.toArray hard k = true) (hd : o.dst = some s) (hlt : s < a.tmps.size) (hE : E l)
    (h1 : ∀ l0, E l0 → ∀ (w0 : World) (H0 : Heap W l0 w0), wpQuiet P lo.toArray (fun w' => ∃ d, w' = H0.any d) (fun a' => a'.tmps.getD s undef = v) [o] a) (h2 : wpF P lo.toArray W G E loud hard K ks l (a.put o.dst v)) : wpF P lo.toArray W G E loud hard K (k :: ks) l a := by
  refine ⟨o, by simpa using ho, ?_⟩
  rw [if_neg (by rw [hk]; exact Bool.false_ne_true)]
  exact ⟨v, .inr ⟨he, hE, yields_of hd hlt h1⟩, h2⟩
theorem wpF_loud {lo : List Oper} {K : List Thing → Act → Prop} {o : Oper} {k : Nat} {ks : List Nat} {l : List Thing} {a : Act} (ho : lo[k]? = some o) (hk : loud.contains k = true) (h : LoudG P lo.toArray W o l a fun l' u => G l' ∧ (hard.contains k = false → E l → E l') ∧ wpF P lo.toArray W G E loud hard K ks l' (a.put o.dst u)) : wpF P lo.toArray W G E loud hard K (k :: ks) l a := by
  refine ⟨o, by simpa using ho, ?_⟩
  rw [if_pos hk]
  exact h
end
section
variable {W : World} {G E : List Thing → Prop} {loud hard : List Nat} {K : List Thing → Act → Prop} {l r : List Thing} {a : Act} {lo : List Oper} {ks : List Nat} {k : Nat} {dst : Option Tmp} {ty : TypeId} {pos : String} {after : Array Edge}
theorem keeps1 {x : Thing} {l : List Thing} (m : x ∈ l) : Keeps [x] l := fun t ht => by rw [List.mem_singleton.1 ht]; exact m
theorem keeps2 {x y : Thing} {l : List Thing} (m : x ∈ l) (m2 : y ∈ l) : Keeps [x, y] l := fun t ht => by
  rcases List.mem_cons.1 ht with rfl | ht
  · exact m
  · rw [List.mem_singleton.1 ht]; exact m2
theorem Heap.push {W w : World} {l r : List Thing} {x : Thing} (H : Heap W (x :: r) w) (h : Pull l x r) : Heap W l w := H.perm h.perm.symm
theorem RowT.form1 {w : World} {e size n : Nat} {v : Value} {xs : List Value} (h : w.ownsRow 0 e size v n xs) : ∃ a c, v = .slice a n c ∧ n ≤ c ∧ c ≤ maxLen := by
  rcases h.2 with ⟨rfl, rfl⟩ | ⟨g, cap, cur, rfl, _, _, hnc, hcm, _⟩
  · exact ⟨none, 0, rfl, Nat.le_refl _, by unfold maxLen; omega⟩
  · exact ⟨_, _, rfl, hnc, hcm⟩
theorem wpF_bsR {x : Operand} {t e : TypeId} {c zs : Array Value} (ho : lo[k]? = some ⟨dst, .buildSlice t 1 #[(0, x)], ty, pos, after, none⟩) (hk : loud.contains k = true) (hx : a.eval x = .agg c)
    (hT : Try.prog.underlying t = some (.slice e) ∧ (Try.prog.info? e).map (fun i => (i.size, i.zero.map Value.cells)) = some (zs.size, some zs) ∧ 0 < zs.size ∧ zs.size ≤ 65536) (hv : c.size = zs.size)
    (hG : ∀ p, G (Cel p c e :: l)) (hE : ∀ p, E l → E (Cel p c e :: l)) (h : ∀ p, wpF Try.prog lo.toArray W G E loud hard K ks (Cel p c e :: l) (a.put dst (.slice (some ⟨p, 0, none⟩) 1 1))) : wpF Try.prog lo.toArray W G E loud hard K (k :: ks) l a := by
  refine wpF_loud ho hk ⟨rfl, fun w H => ⟨_, _, _, .inl ?_, H.alloc c e, hG _, fun _ => hE _, h _⟩⟩
  unfold execOp
  simp only [List.map_toArray, List.map_cons, List.map_nil, hx, Sem.run_bind, run_buildSlice1 hT.1 hT.2.1 hT.2.2.1 hT.2.2.2 (.agg c) hv, Result.andThen_ok, Sem.run_pure]
  rfl
theorem wpF_append {t e size bytes : Nat} {z : Value} (T : SlTy Try.prog t e size bytes z) {s x : Operand} (ho : lo[k]? = some ⟨dst, .call { callee := .builtin .append, args := #[s, x], argTypes := #[t, t] }, ty, pos, after, none⟩) (hk : loud.contains k = true)
    {v : Value} {b m c n : Nat} {xs news : List Value} {cc : Array Value} {te : TypeId} (hs : a.eval s = v) (hx : a.eval x = .slice (some ⟨b, 0, none⟩) m c) (pl : Pull l (RowT e size v n xs) r) (mb : Cel b cc te ∈ l) (hnews : cc.toList = news)
    (hl : news.length = m * size) (h1 : OneCells news) (h63 : n + m ≤ maxLen) (hbytes : (n + m) * bytes ≤ 140737488355328)
    (hh : hard.contains k = true) (hG : ∀ v', G (RowT e size v' (n + m) (xs ++ news) :: r)) (h : ∀ a' c', wpF Try.prog lo.toArray W G E loud hard K ks (RowT e size (.slice a' (n + m) c') (n + m) (xs ++ news) :: r) (a.put dst (.slice a' (n + m) c'))) : wpF Try.prog lo.toArray W G E loud hard K (k :: ks) l a := by
  refine wpF_loud ho hk ⟨rfl, fun w H => ?_⟩
  have H2 := H.pull pl
  have hown : w.ownsRow 0 e size v n xs := H2.ok _ List.mem_cons_self
  have hrd := H.celRd mb
  rw [hnews] at hrd
  obtain ⟨i, hi, hz, hsz, hb⟩ := T.inf
  have hnw := hrd.addr
  obtain ⟨v1, w1, hr1, hbl⟩ := run_append_block w T ty 0 v n xs hown ⟨b, 0, none⟩ m c news hl hnw h1 h63 hbytes
  obtain ⟨v', w', hr, h2, h3, h4⟩ := run_append_own (P := Try.prog) w 0 t ty e i z size bytes T.und hi hz hsz hb T.zc T.pos v n xs hown ⟨b, 0, none⟩ m c news hl hnw h1 h63 hbytes (Nat.zero_le _)
  rw [hr1] at hr
  simp only [Result.ok.injEq] at hr
  obtain ⟨rfl, rfl⟩ := hr
  obtain ⟨a', c', rfl, _, _⟩ := RowT.form1 h2
  refine ⟨_, _, w1, .inl ?_, H2.head h3 h2 ?_, hG _, fun e => absurd hh (by rw [e]; exact Bool.false_ne_true), h _ _⟩
  · unfold execOp
    simp only [resolve, invoke, builtin, Sem.run_bind, Sem.run_pure, Result.andThen_ok, List.map_toArray, List.map_cons, List.map_nil, hs, hx, hr1]
  · rcases hbl with hbl | hbl
    · exact .inl hbl
    · refine .inr fun j hj => ?_
      have h5 := ownsRow_fp h2 j hj
      have hj' : (Value.slice a' (n + m) c').ownBlock = some j := hj
      rw [hbl] at hj'
      cases hj'
      exact ⟨Nat.le_refl _, h5.2⟩
theorem wpF_storeS {T : TypeId} {guard : Option (Nat × Bool)} {x y : Operand} {b : Nat} {v v0 : Value} {t : TypeId} {l' : List Thing} (CT : CellTy T) (ho : lo[k]? = some ⟨dst, .store T x y, ty, pos, after, guard⟩) (hk : loud.contains k = true) (hw : Region.wanted ⟨dst, .store T x y, ty, pos, after, guard⟩ (yielded lo.toArray a.tmps) = true) (hx : a.eval x = .pointer (some ⟨b, 0, none⟩)) (hy : a.eval y = v) (hc : v.cells = #[v] ∧ v.oneCell' = true)
    (m : Cel b #[v0] t ∈ l) (r : Repl l (Cel b #[v0] t) (Cel b #[v] t) l') (hh : hard.contains k = true) (hG : G l')
    (h : wpF Try.prog lo.toArray W G E loud hard K ks l' (a.put dst undef)) : wpF Try.prog lo.toArray W G E loud hard K (k :: ks) l a := by
  refine wpF_loud ho hk ⟨hw, fun w H => ⟨l', undef, setBlk w b #[v], .inr ⟨?_, rfl⟩, H.set r, hG, fun e => absurd hh (by rw [e]; exact Bool.false_ne_true), h⟩⟩
  unfold execOp
  simp only [hx, hy, Sem.run_bind, run_storeC CT hc (H.blk m) (show 0 < (#[v0] : Array Value).size by simp), Result.andThen_ok]
  rfl
end
end Go.Proofs.Ytgobnamhdkbbeaa

/- countinghouselaw01's SameFlows. -/
namespace Go.Proofs.Ytgobnamhdkbbeaa
open Go.RowKit
set_option linter.unusedSimpArgs false
set_option linter.unusedVariables false
instance : DecidableEq Flw := fun x y => if h : x.f = y.f ∧ x.t = y.t ∧ x.n = y.n then .isTrue (by cases x; cases y; simp at h; obtain ⟨rfl, rfl, rfl⟩ := h; rfl) else .isFalse (fun e => by subst e; exact h ⟨rfl, rfl, rfl⟩)
def flowSame (a b n x y z : Int) : Bool := decide (a = x ∧ b = y ∧ n = z)
theorem eqF_run (d : Nat) (a b n x y z : Int) (w : World) : (Op.equalIn (d + 2) 32 (.agg (flow a b n)) (.agg (flow x y z))).run Try.prog w = .ok (flowSame a b n x y z) w := by
  unfold flow
  rw [run_equalIn_struct w (d + 1) 32 _ _ (by kernel_rfl) (by kernel_rfl)]
  have hu := Try.underlying30
  have hv := Try.underlying2
  by_cases h1 : a = x <;> by_cases h2 : b = y <;> by_cases h3 : n = z
  all_goals simp [flowSame, go_sem, Try.underlying32, hu, hv, h1, h2, h3]
theorem neqF_run (a b n x y z : Int) (w : World) : (binOp .neq 32 (.agg (flow a b n)) (.agg (flow x y z))).run Try.prog w = .ok (.bool (!flowSame a b n x y z)) w := by
  have h : (Op.equal 32 (.agg (flow a b n)) (.agg (flow x y z))).run Try.prog w = .ok (flowSame a b n x y z) w := eqF_run 9998 a b n x y z w
  simp only [binOp]
  simp [Sem.run_bind, h]
section
variable {W w : World} {l : List Thing} {ops : Array Oper} {rest : List Oper} {a : Act}
theorem wpQ_neqF {dst : Option Tmp} {ty : TypeId} {pos : String} {after : Array Edge} {guard : Option (Nat × Bool)} {p q : Operand} {a0 b0 n0 x y n : Int} {K : Act → Prop} {H : Heap W l w} (hw : Region.wanted ⟨dst, .binOp .neq 32 p q 32, ty, pos, after, guard⟩ (yielded ops a.tmps) = true) (hp : a.eval p = .agg (flow a0 b0 n0)) (hq : a.eval q = .agg (flow x y n))
    (h : wpQuiet Try.prog ops (fun w' => ∃ d, w' = H.any d) K rest (a.put dst (.bool (!flowSame a0 b0 n0 x y n)))) : wpQuiet Try.prog ops (fun w' => ∃ d, w' = H.any d) K (⟨dst, .binOp .neq 32 p q 32, ty, pos, after, guard⟩ :: rest) a := by
  have hg : (Try.prog.eqGuardType Try.prog.depth 32) = false := by kernel_rfl
  refine BigFrame.wpQuiet_want hw fun K hK => ⟨_, ?_, hK _ h⟩
  rintro _ ⟨d, rfl⟩
  unfold Oper.quietAt execOp
  simp only [hp, hq, Sem.run_bind, neqF_run]
  simp [eqGuard, hg, neqF_run]
  exact ⟨rfl, rfl⟩
end
structure SameFL (W : World) (l : List Thing) (A B : List Flw) (n : Nat) (vi : Value) (wr : World) : Prop where
  out : ∃ k : Nat, k ≤ n ∧ vi = .int .i64 (k : Int) ∧ A.take k = B.take k ∧ Heap W l wr
section
variable {W w : World} {l : List Thing}
set_option maxRecDepth 100000
set_option maxHeartbeats 2000000
theorem sameF_no {A B : List Flw} (a b : Option Addr) (n m c d : Nat) (hA : A.length = n) (hB : B.length = m) (hn : n ≤ 1000000) (hm : m ≤ 1000000) (hne : n ≠ m) : AnsH W l 88 #[.slice a n c, .slice b m d] (.bool false) := by
  intro w H
  have e1 : ((n : Int) != (m : Int)) = true := by simp; omega
  have e2 : ((n : Int) == (m : Int)) = false := by simp; omega
  go_enter Try.func88, Try.ntmps88
  go_wp2_with (go_skip)
  go_ret
  exact ⟨rfl, H⟩
theorem sameF_P {A B : List Flw} (a b : Option Addr) (n c d : Nat) (hA : A.length = n) (hB : B.length = n) (hn : n ≤ 1000000) (RA : ∀ w', Heap W l w' → Rd w' a (flwL A)) (RB : ∀ w', Heap W l w' → Rd w' b (flwL B)) :
    AnsH W l 88 #[.slice a n c, .slice b n d] (.bool (decide (A = B))) := by
  intro w H
  have HA := Lib.hid hA
  have HB := Lib.hid hB
  have HRA := Lib.hid RA
  have HRB := Lib.hid RB
  clear hA hB RA RB
  generalize hres : decide (A = B) = res
  have HRES := Lib.hid hres
  clear hres
  go_enter Try.func88, Try.ntmps88
  go_wp2_with (go_skip)
  have H0 := H
  clear H
  go_loopw [5] (fun vi wr => SameFL W l A B n vi wr) (fun vi _ => n - (intOf vi).toNat)
  case atStart => exact ⟨0, Nat.zero_le _, rfl, rfl, H0⟩
  case round =>
    obtain ⟨k, hk, rfl, ht, H'⟩ := hrel.out
    clear H0 hrel
    have H := H'
    clear H'
    by_cases hlt : k < n
    · have hkA : k < A.length := by rw [HA.out]; exact hlt
      have hkB : k < B.length := by rw [HB.out]; exact hlt
      have hx : A[k]? = some A[k] := List.getElem?_eq_getElem hkA
      have hy : B[k]? = some B[k] := List.getElem?_eq_getElem hkB
      have ra := flwL_at A k hkA
      have rb := flwL_at B k hkB
      have hlA : k * 3 + 3 ≤ (flwL A).length := by rw [flwL_len]; omega
      have hlB : k * 3 + 3 ≤ (flwL B).length := by rw [flwL_len]; omega
      have HT := Lib.hid ht
      clear ht
      generalize A[k] = x at *
      generalize B[k] = y at *
      obtain ⟨ba, oa, rfl, _⟩ := (HRA.out _ H).lt (by omega)
      obtain ⟨bb, ob, rfl, _⟩ := (HRB.out _ H).lt (by omega)
      obtain ⟨xa, xb, xn⟩ := x
      obtain ⟨ya, yb, yn⟩ := y
      have hrA : (((flwL A).drop (k * 3)).take 3).toArray = flow (xa : Int) (xb : Int) xn := by rw [ra]; rfl
      have hrB : (((flwL B).drop (k * 3)).take 3).toArray = flow (ya : Int) (yb : Int) yn := by rw [rb]; rfl
      clear ra rb
      cases he : flowSame (xa : Int) (xb : Int) xn (ya : Int) (yb : Int) yn
      · have HN := Lib.hid (show A ≠ B from fun e => by
          subst e
          rw [hx] at hy
          obtain ⟨rfl, rfl, rfl⟩ := by simpa using hy
          simp [flowSame] at he)
        clear hx hy
        go_wp2_with (go_skip)
        refine wp_region_H H (by kernel_rfl) (by kernel_rfl) ?_
        repeat (first | go_big_quiet_skip | (first | ((with_reducible apply wpQ_loadRdR row_flow); (· rfl); (· rfl); (· exact HRA.out); (· rfl); (· exact hlA); (· decide); (· exact hrA); (simp only [Act.put, List.setIfInBounds_toArray, List.set_cons_zero, List.set_cons_succ])) | ((with_reducible apply wpQ_loadRdR row_flow); (· rfl); (· rfl); (· exact HRB.out); (· rfl); (· exact hlB); (· decide); (· exact hrB); (simp only [Act.put, List.setIfInBounds_toArray, List.set_cons_zero, List.set_cons_succ])) | ((with_reducible apply wpQ_neqF); (· rfl); (· rfl); (· rfl); (rw [he]); (simp only [Act.put, List.setIfInBounds_toArray, List.set_cons_zero, List.set_cons_succ]))) | go_big_quiet_step (fail))
        refine wpQuiet_nil ?_
        clear H
        intro _ H
        go_wp2_with (go_skip)
        go_ret
        rw [← HRES.out, decide_eq_false HN.out]
        exact ⟨rfl, H⟩
      · have HS := Lib.hid (show A.take (k + 1) = B.take (k + 1) by
          rw [List.take_add_one, List.take_add_one, hx, hy, HT.out]
          have h2 := he
          simp [flowSame] at h2
          obtain ⟨h3, h4, h5⟩ := h2
          have h3' : xa = ya := by omega
          have h4' : xb = yb := by omega
          subst h3' h4' h5
          rfl)
        clear hx hy
        go_wp2_with (go_skip)
        refine wp_region_H H (by kernel_rfl) (by kernel_rfl) ?_
        repeat (first | go_big_quiet_skip | (first | ((with_reducible apply wpQ_loadRdR row_flow); (· rfl); (· rfl); (· exact HRA.out); (· rfl); (· exact hlA); (· decide); (· exact hrA); (simp only [Act.put, List.setIfInBounds_toArray, List.set_cons_zero, List.set_cons_succ])) | ((with_reducible apply wpQ_loadRdR row_flow); (· rfl); (· rfl); (· exact HRB.out); (· rfl); (· exact hlB); (· decide); (· exact hrB); (simp only [Act.put, List.setIfInBounds_toArray, List.set_cons_zero, List.set_cons_succ])) | ((with_reducible apply wpQ_neqF); (· rfl); (· rfl); (· rfl); (rw [he]); (simp only [Act.put, List.setIfInBounds_toArray, List.set_cons_zero, List.set_cons_succ]))) | go_big_quiet_step (fail))
        refine wpQuiet_nil ?_
        clear H
        intro _ H
        go_wp2_with (go_skip)
        refine ⟨⟨k + 1, by omega, by go_num, HS.out, H⟩, ?measure⟩
        case measure => simp [intOf]; omega
    · obtain rfl : k = n := by omega
      have HE := Lib.hid (show A = B by
        have h := ht
        rw [List.take_of_length_le (by rw [HA.out]; exact Nat.le_refl _), List.take_of_length_le (by rw [HB.out]; exact Nat.le_refl _)] at h
        exact h)
      clear ht
      go_wp2_with (go_skip)
      go_ret
      rw [← HRES.out, decide_eq_true HE.out]
      exact ⟨rfl, H⟩
theorem sameFlows_P {A B : List Flw} (a b : Option Addr) (n m c d : Nat) (hA : A.length = n) (hB : B.length = m) (hn : n ≤ 1000000) (hm : m ≤ 1000000) (RA : ∀ w', Heap W l w' → Rd w' a (flwL A)) (RB : ∀ w', Heap W l w' → Rd w' b (flwL B)) :
    AnsH W l 48 #[.slice a n c, .slice b m d] (.bool (decide (A = B))) := by
  intro w H
  have S : AnsH W l 88 #[.slice a n c, .slice b m d] (.bool (decide (A = B))) := by
    by_cases e : n = m
    · subst e
      exact sameF_P a b n c d hA hB hn RA RB
    · rw [decide_eq_false (fun h => e (by rw [← hA, ← hB, h]))]
      exact sameF_no a b n m c d hA hB hn hm e
  clear RA RB hA hB
  generalize decide (A = B) = res at *
  go_enter Try.func48, Try.ntmps48
  go_wp2_with (first | go_skip | ((with_reducible refine AnsH.call (by assumption) H ?_); clear H; intro _ H))
  go_ret
  exact ⟨rfl, H⟩
end
end Go.Proofs.Ytgobnamhdkbbeaa

/- What GraphsPlay needs of the graph's functions, each in one form. -/
namespace Go.Proofs.Ytgobnamhdkbbeaa
open Go.RowKit
set_option linter.unusedSimpArgs false
set_option linter.unusedVariables false
theorem rowE_congr {c d : Caps} {a : Nat} : ∀ k, (∀ b, b < k → c a b = d a b) → rowE c a k = rowE d a k
  | 0, _ => rfl
  | k + 1, h => by rw [rowE, rowE, rowE_congr k (fun b hb => h b (by omega)), h k (by omega)]
theorem matE_congr {c d : Caps} : ∀ k, (∀ a b, a < k → b < 17 → c a b = d a b) → matE c k = matE d k
  | 0, _ => rfl
  | k + 1, h => by rw [matE, matE, matE_congr k (fun a b ha hb => h a b (by omega) hb), rowE_congr 17 (fun b hb => h k b (by omega) hb)]
theorem same_edges {c d : Caps} (hc : GoodC c) (hd : GoodC d) : matSame c d = decide (edgesOf c = edgesOf d) := by
  rw [Bool.eq_iff_iff, matSame_iff, decide_eq_true_eq]
  constructor
  · exact fun h => matE_congr 17 h
  · intro h a b _ _
    rw [← hc.cap, ← hd.cap, h]
section
variable {W w : World} {l : List Thing} {p : Nat}
theorem gpush_H {c : Caps} (a b : Nat) (n : Int) (ha : a ≤ 255) (hb : b ≤ 255) (hc : PlayC c) (H : Heap W (Gr p c :: l) w) :
    Calls Try.prog 17 #[.pointer (some ⟨p, 0, none⟩), .int .u8 (a : Int), .int .u8 (b : Int), .int .i64 n] w fun e w' => e = .returned (.int .i64 (pushR c a b n)) ∧ Heap W (Gr p (pushT c a b n) :: l) w' := by
  by_cases h1 : n < 1
  · rw [show pushR c a b n = 1 by simp [pushR, h1], show pushT c a b n = c by simp [pushT, h1]]
    exact push_arg a b n List.mem_cons_self h1 w H
  · by_cases h2 : c a b < n
    · rw [show pushR c a b n = 11 by simp [pushR, h1, h2], show pushT c a b n = c by simp [pushT, h2]]
      exact push_route a b n ha hb List.mem_cons_self (by omega) (by rw [hc.good.capOf]; exact h2) w H
    · rw [show pushR c a b n = 0 by simp [pushR, h1, h2], show pushT c a b n = pushC c a b n by simp [pushT, h1, h2]]
      have hm := hc.good.may a b (by omega)
      have m1 := mayP_true hm.1
      have m2 := mayP_true hm.2
      have hne := hc.ne (show 1 ≤ n by omega) (show n ≤ c a b by omega)
      have hu : upd2 c a b (c a b - n) b a = c b a := by unfold upd2; rw [if_neg (fun e => hne e.1.symm)]
      have hs := hc.sum a b
      have hge := hc.good.ge b a
      exact push_ok a b n m1.1 m1.2 m2.1 m2.2 H (by omega) (by omega) (hc.bnd a b) (by omega) (by omega)
theorem gedges_H {c : Caps} (H : Heap W l w) (h : Gr p c ∈ l) : Calls Try.prog 50 #[.pointer (some ⟨p, 0, none⟩)] w fun e w' => ∃ a cc, e = .returned (.slice a (edgesOf c).length (edgesOf c).length) ∧ Heap W (FlT (.slice a (edgesOf c).length cc) (edgesOf c).length (edgesOf c) :: l) w' := by
  refine (edges_H H h).mono ?_
  rintro e w' (⟨h0, rfl, H⟩ | ⟨_, g, cc, rfl, _, H⟩)
  · refine ⟨none, 0, by rw [h0], ?_⟩
    have := H.nilRow 32 3
    rw [h0, List.eq_nil_of_length_eq_zero h0]
    exact this
  · exact ⟨_, _, rfl, H⟩
end
end Go.Proofs.Ytgobnamhdkbbeaa

/- flows.Route. -/
namespace Go.Proofs.Ytgobnamhdkbbeaa
open Go.RowKit
attribute [local go_sem] Oper.semAt_some
set_option linter.unusedSimpArgs false
set_option linter.unusedVariables false
theorem cell_pg7 : CellTy 28 := ⟨⟨_, Try.underlying28, rfl⟩, by kernel_rfl⟩
abbrev one (v : Value) : Array Value := #[v]
theorem one_g (v : Value) : (one v)[0]? = some v := rfl
section
variable {ops : Array Oper} {rest : List Oper} {a : Act} {w W : World} {l : List Thing} {Q : Exit → Act → World → Prop}
theorem wpl_boxIH {T : TypeId} {dst : Option Tmp} {ty : TypeId} {pos : String} {after : Array Edge} {guard : Option (Nat × Bool)} {x : Operand} {k : IntKind} {n : Int} (hw : Region.wanted ⟨dst, .box T x, ty, pos, after, guard⟩ (yielded ops a.tmps) = true) (hx : a.eval x = .int k n)
    (H : Heap W l w) (h : ∀ p w', Heap W (Cel p #[.int k n] T :: l) w' → wpList Try.prog ops Q rest (a.put dst (.pointer (some ⟨p, 0, none⟩))) w') : wpList Try.prog ops Q (⟨dst, .box T x, ty, pos, after, guard⟩ :: rest) a w :=
  wpl_boxCH hw hx rfl H h
theorem wpl_allocS {dst : Option Tmp} {ty : TypeId} {pos : String} {after : Array Edge} {guard : Option (Nat × Bool)} (hw : Region.wanted ⟨dst, .alloc 24, ty, pos, after, guard⟩ (yielded ops a.tmps) = true)
    (H : Heap W l w) (h : ∀ p w', Heap W (Cel p #[.slice none 0 0] 24 :: l) w' → wpList Try.prog ops Q rest (a.put dst (.pointer (some ⟨p, 0, none⟩))) w') : wpList Try.prog ops Q (⟨dst, .alloc 24, ty, pos, after, guard⟩ :: rest) a w :=
  wpl_allocCH ⟨by kernel_rfl, rfl⟩ hw H h
theorem wpl_allocI {dst : Option Tmp} {ty : TypeId} {pos : String} {after : Array Edge} {guard : Option (Nat × Bool)} (hw : Region.wanted ⟨dst, .alloc 2, ty, pos, after, guard⟩ (yielded ops a.tmps) = true)
    (H : Heap W l w) (h : ∀ p w', Heap W (Cel p #[.int .i64 0] 2 :: l) w' → wpList Try.prog ops Q rest (a.put dst (.pointer (some ⟨p, 0, none⟩))) w') : wpList Try.prog ops Q (⟨dst, .alloc 2, ty, pos, after, guard⟩ :: rest) a w :=
  wpl_allocCH ⟨by kernel_rfl, rfl⟩ hw H h
end
/-- What lies there while the ways come, but the loop's record. -/
abbrev RtL (l : List Thing) (D b1 b2 b3 q f t bg bw bp bo : Nat) (want : Int) (c : Caps) (n : Int) (v : Value) (P : List Flw) : List Thing :=
  ObjT D (.deferred (some [])) :: Cel b3 #[.int .u8 (t : Int)] 30 :: Cel b2 #[.int .u8 (f : Int)] 30 :: Cel b1 #[.pointer (some ⟨q, 0, none⟩)] 28 :: Gr q c :: Cel bo #[.int .i64 (want - n)] 2 :: Cel bp #[v] 24 :: Cel bw #[.int .i64 want] 2 :: Cel bg #[.pointer (some ⟨q, 0, none⟩)] 28 :: FlT v P.length P :: l
structure RtIt (W : World) (l : List Thing) (r0 : Loop) (D b1 b2 b3 q f t bg bw bp bo : Nat) (want : Int) (c0 : Caps) (wr : World) : Prop where
  out : ∃ (k : Nat) (c : Caps) (n : Int) (v : Value) (P : List Flw), Tr f t c0 want k c n P ∧ 0 < n ∧ Heap W (ObjT (D + 1) (.loop r0) :: RtL l D b1 b2 b3 q f t bg bw bp bo want c n v P) wr
structure RtPush (W : World) (l : List Thing) (o : Obj) (D b1 b2 b3 q f t bg bw bp bo : Nat) (want n : Int) (c : Caps) (P : List Flw) (L : List Nat) (m : Int) (a2 : Option Addr) (ln c2 : Nat) (i : Value) (wr : World) : Prop where
  out : ∃ (k : Nat) (c1 : Caps) (v1 : Value) (P1 : List Flw), i = .int .i64 (k : Int) ∧ k + 1 ≤ ln ∧ PlayC c1 ∧ psW c1 (L.drop k) m = psW c L m ∧ P1 ++ flW (L.drop k) m = P ++ flW L m ∧ P1.length ≤ P.length + k ∧ Heap W (ObjT (D + 1) o :: OwnT 30 1 (.slice a2 ln c2) ln (L.map pv) :: RtL l D b1 b2 b3 q f t bg bw bp bo want c1 n v1 P1) wr
def gotM (bo : Nat) (want : Int) (wr : World) : Nat := match wr.cell? ⟨bo, 0, none⟩ with
  | some (.int _ g) => (want - g).toNat
  | _ => 0
theorem run_varC {T : TypeId} (CT : CellTy T) {w : World} {b off : Nat} {c : Array Value} {t : TypeId} {f : Nat × Nat} {v : Value} (hb : w.heap[b]? = some (.cells c t f)) (hv : c[off]? = some v) :
    (loadVar T ⟨b, off, none⟩).run Try.prog w = .ok v w := by
  obtain ⟨d, hu, hd⟩ := CT.und
  have hagg : (isAgg T).run Try.prog w = .ok false w := by
    unfold isAgg
    rw [Sem.run_bind, run_underlying hu w]
    cases d <;> simp_all [TypeDesc.isRow]
  have hc : w.cell? ⟨b, off, none⟩ = some v := by rw [cell_of_row w b off c t f hb]; exact hv
  simp [loadVar, Sem.run_bind, hagg, go_sem, hc]
theorem results_cc {W w : World} {l : List Thing} {T1 T2 : TypeId} (C1 : CellTy T1) (C2 : CellTy T2) {fn : Func} {p q : Tmp} (hf : fn.results = #[.cell p T1, .cell q T2]) {tmps : Array Value} {b1 b2 : Nat} (hp : tmps.getD p undef = .pointer (some ⟨b1, 0, none⟩)) (hq : tmps.getD q undef = .pointer (some ⟨b2, 0, none⟩))
    (H : Heap W l w) {v1 v2 : Value} {t1 t2 : TypeId} (m1 : Cel b1 #[v1] t1 ∈ l) (m2 : Cel b2 #[v2] t2 ∈ l) : (results fn tmps).run Try.prog w = .ok (.tuple #[v1, v2]) w := by
  have hp' : tmps[p]?.getD undef = .pointer (some ⟨b1, 0, none⟩) := by simpa using hp
  have hq' : tmps[q]?.getD undef = .pointer (some ⟨b2, 0, none⟩) := by simpa using hq
  have e1 := run_varC C1 (H.blk m1) (show (#[v1] : Array Value)[0]? = some v1 from rfl)
  have e2 := run_varC C2 (H.blk m2) (show (#[v2] : Array Value)[0]? = some v2 from rfl)
  simp [results, hf, hp', hq', asAddr, e1, e2]
theorem RowT.nil7 {w : World} {e size n : Nat} {v : Value} {xs : List Value} (h : (RowT e size v n xs).ok w) : ∀ n' c', v = .slice none n' c' → n' = 0 ∧ c' = 0 := by
  intro n' c' e
  rcases h.2 with ⟨h1, _⟩ | ⟨g, cap, cur, h1, _⟩
  · rw [h1] at e; cases e; exact ⟨rfl, rfl⟩
  · rw [h1] at e; cases e
theorem clipFA (a : Option Addr) (n c : Nat) (hn : n ≤ c) (hm : c ≤ maxLen) (h0 : a = none → n = 0 ∧ c = 0) : Ans 89 #[.slice a n c] (.slice a n n) := by
  cases a with
  | none => obtain ⟨rfl, rfl⟩ := h0 rfl; exact clipF_nil
  | some a => exact clipF a n c hn hm
theorem gotM_of {W w : World} {L : List Thing} {bo : Nat} {g want : Int} {T : TypeId} (H : Heap W L w) (m : Cel bo #[.int .i64 g] T ∈ L) : gotM bo want w = (want - g).toNat := by
  have hb : w.heap[bo]? = some (.cells #[.int .i64 g] T (0, 0)) := H.blk m
  unfold gotM
  simp [World.cell?, hb]
section
variable {W w : World} {l : List Thing} {p : Nat}
set_option maxRecDepth 100000
set_option maxHeartbeats 4000000
theorem route_H (c0 : Caps) (f t : Nat) (want : Int) (hf : f ≤ 255) (ht : t ≤ 255) (hw : 0 < want) (h1 : want ≤ 9223372036854775807) (hc : PlayC c0) (m1 : Gr p c0 ∈ l) (H : Heap W l w) :
    Calls Try.prog 59 #[.pointer (some ⟨p, 0, none⟩), .int .u8 (f : Int), .int .u8 (t : Int), .int .i64 want] w fun e w' => ∃ v P got, e = .returned (.tuple #[v, .int .i64 got]) ∧ RouteOut f t c0 want P got ∧ Heap W (OwnT 32 3 v P.length (flwL P) :: l) w' := by
  have g1 : decide (want ≤ 0) = false := by simp; omega
  have HC := Lib.hid hc
  have M := Lib.hid m1
  clear hc m1
  refine (callsIn_wide (n := 3)).1 (callsIn_of_wp_marks Try.func59 rfl trivial ?_)
  refine (wpIn_wide (n := 3)).2 ?_
  simp only [Try.ntmps59, List.size_toArray, List.length_cons, List.length_nil, Nat.reduceAdd, Nat.reduceSub, Array.replicate_succ, Array.replicate_zero, List.push_toArray, List.append_toArray, List.nil_append, List.cons_append]
  go_wp2_with (first
    | go_skip
    | ((with_reducible show wpList _ _ _ (_ :: _) _ _); (with_reducible apply wpl_boxPH); (· rfl); (· rfl); (· exact H); (clear H; intro bg _ H); (simp only [Act.put, List.setIfInBounds_toArray, List.set_cons_zero, List.set_cons_succ]))
    | ((with_reducible show wpList _ _ _ (_ :: _) _ _); (with_reducible apply wpl_boxIH); (· rfl); (· rfl); (· exact H); (clear H; intro bw _ H); (simp only [Act.put, List.setIfInBounds_toArray, List.set_cons_zero, List.set_cons_succ]))
    | ((with_reducible show wpList _ _ _ (_ :: _) _ _); (with_reducible apply wpl_allocS); (· rfl); (· exact H); (clear H; intro bp _ H); (simp only [Act.put, List.setIfInBounds_toArray, List.set_cons_zero, List.set_cons_succ]))
    | ((with_reducible show wpList _ _ _ (_ :: _) _ _); (with_reducible apply wpl_allocI); (· rfl); (· exact H); (clear H; intro bo _ H); (simp only [Act.put, List.setIfInBounds_toArray, List.set_cons_zero, List.set_cons_succ]))
    | ((with_reducible show wpList _ _ _ (_ :: _) _ _); (with_reducible apply wpl_loadCH); (· first | exact cell_i64 | exact cell_pg7); (· rfl); (· rfl); (· exact H); (· (repeat (first | (with_reducible exact List.mem_cons_self) | with_reducible apply List.mem_cons_of_mem))); (· exact one_g _); (simp only [Act.put, List.setIfInBounds_toArray, List.set_cons_zero, List.set_cons_succ])))
  refine (copy_H (p := p) (c := c0) H (List.mem_cons_of_mem _ (List.mem_cons_of_mem _ (List.mem_cons_of_mem _ (List.mem_cons_of_mem _ M.out))))).mono ?_
  clear H
  rintro e w1 ⟨q, rfl, H⟩
  go_wp2_with (first
    | go_skip
    | ((with_reducible show wpList _ _ _ (_ :: _) _ _); (with_reducible apply wpl_loadCH); (· first | exact cell_i64 | exact cell_pg7); (· rfl); (· rfl); (· exact H); (· (repeat (first | (with_reducible exact List.mem_cons_self) | with_reducible apply List.mem_cons_of_mem))); (· exact one_g _); (simp only [Act.put, List.setIfInBounds_toArray, List.set_cons_zero, List.set_cons_succ]))
    | ((with_reducible show wpList _ _ _ (_ :: _) _ _); (with_reducible apply wpl_storePH); (· exact cell_pg7); (· rfl); (· rfl); (· rfl); (· exact H); (· (repeat (first | (with_reducible exact List.mem_cons_self) | with_reducible apply List.mem_cons_of_mem))); (· exact Nat.le_refl 1); (· rfl); (· (repeat (first | (with_reducible exact Repl.here) | with_reducible apply Repl.there))); (clear H; intro _ H); (simp only [Act.put, List.setIfInBounds_toArray, List.set_cons_zero, List.set_cons_succ])))
  refine (ways_H q f t H).mono ?_
  clear H
  rintro e w2 ⟨b1, b2, b3, rfl, H⟩
  go_wp2_with (go_skip)
  refine rangeP (fun D w' => ∃ c' n' v' P', RouteOut f t c0 want P' (want - n') ∧ Heap W (RtL l D b1 b2 b3 q f t bg bw bp bo want c' n' v' P') w') (gf := 114) (lb := #[.pointer (some ⟨b1, 0, none⟩), .pointer (some ⟨b2, 0, none⟩), .pointer (some ⟨b3, 0, none⟩)]) rfl Try.call114 H ?tail ?loop
  case tail =>
    clear H
    rintro D w3 ⟨c', n', v', P', hr, H⟩
    have HRO := Lib.hid hr
    clear hr
    obtain ⟨N6, hN6⟩ : ∃ N6, P'.length = N6 := ⟨_, rfl⟩
    unfold RtL at H
    rw [hN6] at H
    have hrow := H.ok (FlT v' N6 P') (by (repeat (first | (with_reducible exact List.mem_cons_self) | with_reducible apply List.mem_cons_of_mem)))
    have hnil := RowT.nil7 hrow
    obtain ⟨a6, c6, rfl, hn6, hm6⟩ := rowT_form hrow
    have CL := clipFA a6 N6 c6 hn6 hm6 (fun e => hnil _ _ (by rw [e]))
    have HN6 := Lib.hid hN6
    clear hrow hnil hN6
    go_wp2_with (go_skip)
    refine wp_region_F [3, 4] [3, 4] [0, 1, 2, 3, 4] (Keeps [Cel bo #[.int .i64 (want - n')] 2]) (Keeps [Cel bp #[.slice a6 N6 c6] 24]) H (by kernel_rfl) (by kernel_rfl) ?_
    (apply wpF_early; (· rfl); (· rfl); (· kernel_rfl); (· rfl); (· exact Nat.le_of_ble_eq_true rfl); (· exact keeps1 (by (repeat (first | (with_reducible exact List.mem_cons_self) | with_reducible apply List.mem_cons_of_mem)))); (· intro l0 hs0 w0 H0; (first | ((with_reducible apply wpQ_loadCH); (· exact cell_flows); (· rfl); (· rfl); (· exact hs0 _ List.mem_cons_self); (· exact one_g _); (simp only [Act.put, List.setIfInBounds_toArray, List.set_cons_zero, List.set_cons_succ]))); (refine wpQuiet_nil ?_); (simp only [Array.getD_eq_getD_getElem?, List.getElem?_toArray, List.getElem?_cons_succ, List.getElem?_cons_zero, Option.getD_some]; rfl)); (simp only [Act.put, List.setIfInBounds_toArray, List.set_cons_zero, List.set_cons_succ]))
    (apply wpF_step; (· rfl); (· rfl); (· rfl); (· exact Nat.le_of_ble_eq_true rfl); (· exact keeps1 (by (repeat (first | (with_reducible exact List.mem_cons_self) | with_reducible apply List.mem_cons_of_mem)))); (· intro l0 hs0 w0 H0; (first | go_big_quiet_skip | fail | go_big_quiet_step (exact CL.quietH)); (refine wpQuiet_nil ?_); (simp only [Array.getD_eq_getD_getElem?, List.getElem?_toArray, List.getElem?_cons_succ, List.getElem?_cons_zero, Option.getD_some]; rfl)); (simp only [Act.put, List.setIfInBounds_toArray, List.set_cons_zero, List.set_cons_succ]))
    (apply wpF_step; (· rfl); (· rfl); (· rfl); (· exact Nat.le_of_ble_eq_true rfl); (· exact keeps1 (by (repeat (first | (with_reducible exact List.mem_cons_self) | with_reducible apply List.mem_cons_of_mem)))); (· intro l0 hs0 w0 H0; (first | go_big_quiet_skip | ((with_reducible apply wpQ_loadCH); (· exact cell_i64); (· rfl); (· rfl); (· exact hs0 _ List.mem_cons_self); (· exact one_g _); (simp only [Act.put, List.setIfInBounds_toArray, List.set_cons_zero, List.set_cons_succ])) | go_big_quiet_step (fail)); (refine wpQuiet_nil ?_); (simp only [Array.getD_eq_getD_getElem?, List.getElem?_toArray, List.getElem?_cons_succ, List.getElem?_cons_zero, Option.getD_some]; rfl)); (simp only [Act.put, List.setIfInBounds_toArray, List.set_cons_zero, List.set_cons_succ]))
    refine wpF_storeS (v := .slice a6 N6 N6) cell_flows rfl rfl rfl rfl rfl ⟨rfl, rfl⟩ (by (repeat (first | (with_reducible exact List.mem_cons_self) | with_reducible apply List.mem_cons_of_mem))) (by (repeat (first | (with_reducible exact Repl.here) | with_reducible apply Repl.there))) rfl (keeps1 (by (repeat (first | (with_reducible exact List.mem_cons_self) | with_reducible apply List.mem_cons_of_mem)))) ?_
    (simp only [Act.put, List.setIfInBounds_toArray, List.set_cons_zero, List.set_cons_succ])
    refine wpF_storeS (v := .int .i64 (want - n')) cell_i64 rfl rfl rfl rfl rfl ⟨rfl, rfl⟩ (by (repeat (first | (with_reducible exact List.mem_cons_self) | with_reducible apply List.mem_cons_of_mem))) (by (repeat (first | (with_reducible exact Repl.here) | with_reducible apply Repl.there))) rfl (keeps1 (by (repeat (first | (with_reducible exact List.mem_cons_self) | with_reducible apply List.mem_cons_of_mem)))) ?_
    (simp only [Act.put, List.setIfInBounds_toArray, List.set_cons_zero, List.set_cons_succ])
    (refine wpF_nil ?_; clear H; intro _ H)
    go_wp2_with (go_skip)
    have hK : _ = some (Obj.deferred (some [])) := H.ok (ObjT D (.deferred (some []))) (by (repeat (first | (with_reducible exact List.mem_cons_self) | with_reducible apply List.mem_cons_of_mem)))
    have H5 := (H.pull .here).putO (o' := .deferred none)
    refine ⟨by simp, .inl ⟨_, _, rfl, run_takeDeferred hK, ?_⟩⟩
    refine ⟨_, results_cc cell_flows cell_i64 rfl rfl rfl H5 (v1 := .slice a6 N6 N6) (v2 := .int .i64 (want - n')) (by (repeat (first | (with_reducible exact List.mem_cons_self) | with_reducible apply List.mem_cons_of_mem))) (by (repeat (first | (with_reducible exact List.mem_cons_self) | with_reducible apply List.mem_cons_of_mem))), ?_⟩
    refine ⟨_, P', _, rfl, HRO.out, ?_⟩
    rw [HN6.out]
    have H6 := H5.tail.tail.tail.tail.tail.tail.tail.tail.tail
    exact H6.slide.clipOwn
  case loop =>
  intro fn D w3 r0 hr0 H
  have HR0 := Lib.hid hr0
  clear hr0
  refine callsIn_of_wp Try.func114 rfl trivial ?_ rfl
  simp only [Try.ntmps114, List.size_toArray, List.length_cons, List.length_nil, Nat.reduceAdd, Nat.reduceSub, Array.replicate_succ, Array.replicate_zero, List.push_toArray, List.append_toArray, List.nil_append, List.cons_append]
  gi_wp2
  have H0 : RtIt W l r0 D b1 b2 b3 q f t bg bw bp bo want c0 w3 := ⟨0, c0, want, .slice none 0 0, [], .nil, hw, by
    simp only [RtL, Int.sub_self]
    have H2 := (H.nilRow 32 3)
    exact H2.push (.there (.there (.there (.there (.there (.there (.there (.there (.there (.there .here))))))))))⟩
  clear H
  gi_loopw [5] (fun _ wr => RtIt W l r0 D b1 b2 b3 q f t bg bw bp bo want c0 wr) (fun _ wr => gotM bo want wr)
  case atStart => exact H0
  case round =>
    obtain ⟨k, c, n, v, P, hT, hpos, H⟩ := hrel.out
    clear H0 hrel
    have hgm : gotM bo want wr = n.toNat := by
      have := gotM_of (want := want) H (show Cel bo #[.int .i64 (want - n)] 2 ∈ _ by (repeat (first | (with_reducible exact List.mem_cons_self) | with_reducible apply List.mem_cons_of_mem)))
      rw [this]
      congr 1
      omega
    refine wpIn_block ?_
    refine wpIn_seq ?_
    refine (wpIn_wide (n := 2)).2 ?_
    go_wp2_with (first
      | go_skip
      | ((with_reducible show wpList _ _ _ (_ :: _) _ _); (with_reducible apply wpl_loadCH); (· first | exact cell_party | exact cell_pg7); (· rfl); (· rfl); (· exact H); (· (repeat (first | (with_reducible exact List.mem_cons_self) | with_reducible apply List.mem_cons_of_mem))); (· exact one_g _); (simp only [Act.put, List.setIfInBounds_toArray, List.set_cons_zero, List.set_cons_succ])))
    refine (short_H (gv := .pointer (some ⟨q, 0, none⟩)) f t hf ht (CapsOf.gr (p := q) (c := c) (by (repeat (first | (with_reducible exact List.mem_cons_self) | with_reducible apply List.mem_cons_of_mem)))) H).mono ?_
    clear H
    rintro e w4 ⟨v2, L, rfl, hs, H⟩
    obtain ⟨ln, hln⟩ : ∃ ln, L.length = ln := ⟨_, rfl⟩
    rw [hln] at H
    obtain ⟨a2, c2, rfl⟩ := OwnT.form0 (H.ok _ List.mem_cons_self)
    by_cases hL : L = []
    · subst hL
      obtain rfl : 0 = ln := hln
      have HS := Lib.hid (And.intro hs hT)
      clear hs hT
      go_wp2_with (go_skip)
      gi_wp2
      refine ⟨fun _ h => (by cases h), ?_⟩
      gi_wp2
      refine bodyPost_ret (results_none rfl _ _ _) rfl ?_
      exact ⟨_, r0, RtL l D b1 b2 b3 q f t bg bw bp bo want c n v P, rfl, (by rw [HR0.out]; exact fun h => by cases h), .inl (by rw [HR0.out]), H.tail, fun w' H' => ⟨c, n, v, P, ⟨k, c, n, HS.out.2, .inr HS.out.1, by omega⟩, H'⟩⟩
    · have hle := hs.le
      have hl1 : 1 ≤ ln := by rw [← hln]; exact List.length_pos_iff.2 hL
      rw [hln] at hle
      have hl16 := hle.1
      have g3 : ((ln : Int) == 0) = false := by simp; omega
      have HL := Lib.hid (And.intro hs (And.intro hL (And.intro hln (And.intro hle.2 hT))))
      clear hs hL hln hle hT
      go_wp2_with (go_skip)
      gi_wp2
      refine upon_yield (a1 := ?a1) HR0.out rfl (H.pull (.there .here)) ?hassign (fun l' => ∃ c' n' v' P', Tr f t c0 want (k + 1) c' n' P' ∧ 0 < n' ∧ n' < n ∧ l' = RtL l D b1 b2 b3 q f t bg bw bp bo want c' n' v' P') (fun id l' => id = 0 ∧ ∃ c' v' P', Tr f t c0 want (k + 1) c' 0 P' ∧ l' = RtL l D b1 b2 b3 q f t bg bw bp bo want c' 0 v' P') ?hbody ?hgo ?hleave
      case hassign =>
        intro K hK
        gi_wp2
        exact hK
      case hgo =>
        clear H
        rintro l' w' ⟨c', n', v', P', hT', h0', hlt', rfl⟩ H
        have hgm2 : gotM bo want w' = n'.toNat := by
          have := gotM_of (want := want) H (show Cel bo #[.int .i64 (want - n')] 2 ∈ _ by (repeat (first | (with_reducible exact List.mem_cons_self) | with_reducible apply List.mem_cons_of_mem)))
          rw [this]
          congr 1
          omega
        gi_wp2
        exact ⟨⟨k + 1, c', n', v', P', hT', h0', H⟩, by rw [hgm2, hgm]; omega⟩
      case hleave =>
        clear H
        rintro id l' w' ⟨rfl, c', v', P', hT', rfl⟩ H
        have HT3 := Lib.hid hT'
        clear hT'
        gi_wp2
        refine bodyPost_ret (results_none rfl _ _ _) rfl ?_
        exact ⟨_, _, _, rfl, (fun h => by cases h), .inr rfl, H, fun w' H' => ⟨c', 0, v', P', ⟨k + 1, c', 0, HT3.out, .inl (by omega), by omega⟩, H'⟩⟩
      case hbody =>
        clear H
        generalize loopR LoopState.busy none fn _ #[21] _ _ D = r1
        intro w5 H
        have hpc := HL.out.2.2.2.2.play HC.out
        have htop := HL.out.2.2.2.2.top HC.out
        have hpot := HL.out.2.2.2.2.pot HC.out
        have LE := least_H (W := W) (l := ObjT (D + 1) (.loop r1) :: OwnT 30 1 (.slice a2 ln c2) ln (L.map pv) :: RtL l D b1 b2 b3 q f t bg bw bp bo want c n v P) (p := q) c L n ln a2 c2 HL.out.2.1 HL.out.2.2.1 hl16 HL.out.2.2.2.1 hpc.good (by (repeat (first | (with_reducible exact List.mem_cons_self) | with_reducible apply List.mem_cons_of_mem))) (by (repeat (first | (with_reducible exact List.mem_cons_self) | with_reducible apply List.mem_cons_of_mem)))
        obtain ⟨m, hm⟩ : ∃ m, mnW c L n = m := ⟨_, rfl⟩
        rw [hm] at LE
        have hml := mnW_le c L n
        have hmp : 0 < mnW c L n := by
          obtain ⟨d, hwy⟩ := HL.out.1.way hpc.good HL.out.2.1
          exact mnW_pos c L n hpos hwy.cap
        rw [hm] at hml hmp
        have HM := Lib.hid (And.intro hm hpc)
        have hPl := hpot.2.2
        have hk := hpot.2.1
        clear hm hpc hpot
        have hs1 : wrap64 (want - (want - n)) = n := by rw [show want - (want - n) = n by omega]; exact IntWalk.wrap64_in _ ⟨by omega, by omega⟩
        refine wpIn_block ?_
        refine wpIn_seq ?_
        refine region_in (by kernel_rfl) (fun ⟨_, _, h⟩ => h) ?_
        go_wp2_with (first
          | go_skip
          | ((with_reducible show wpList _ _ _ (_ :: _) _ _); (with_reducible apply wpl_loadCH); (· first | exact cell_i64 | exact cell_pg7); (· rfl); (· rfl); (· exact H); (· (repeat (first | (with_reducible exact List.mem_cons_self) | with_reducible apply List.mem_cons_of_mem))); (· exact one_g _); (simp only [Act.put, List.setIfInBounds_toArray, List.set_cons_zero, List.set_cons_succ])))
        rw [show want - (want - n) = n by omega]
        refine (LE _ H).mono ?_
        clear H LE hs1
        rintro e w6 ⟨rfl, H⟩
        go_wp2_with (go_skip)
        gi_wp2
        have H0 := H
        clear H
        gi_loopw [31] (fun i wr => RtPush W l (Obj.loop r1) D b1 b2 b3 q f t bg bw bp bo want n c P L m a2 ln c2 i wr) (fun i _ => ln - (intOf i).toNat)
        case atStart => exact ⟨0, c, v, P, rfl, by omega, HM.out.2, rfl, rfl, by omega, H0⟩
        case round =>
          obtain ⟨i, c1, v1, P1, rfl, hi, hpc1, hps, hfl, hlen, H⟩ := hrel.out
          clear H0 hrel
          by_cases hlt : i + 1 < ln
          · have g4 : decide ((i : Int) < (ln : Int) - 1) = true := by simp; omega
            have x1 : L[i]? = some (L[i]'(by rw [HL.out.2.2.1]; omega)) := List.getElem?_eq_getElem _
            have x2 : L[i + 1]? = some (L[i + 1]'(by rw [HL.out.2.2.1]; omega)) := List.getElem?_eq_getElem _
            generalize L[i]'(by rw [HL.out.2.2.1]; omega) = x at x1
            generalize L[i + 1]'(by rw [HL.out.2.2.1]; omega) = y at x2
            have hx16 := HL.out.2.2.2.1 x (List.mem_iff_getElem?.2 ⟨_, x1⟩)
            have hy16 := HL.out.2.2.2.1 y (List.mem_iff_getElem?.2 ⟨_, x2⟩)
            obtain ⟨M2, e1, e2⟩ := drop_two x1 x2
            rw [e1, psW, ← e2] at hps
            rw [e1, flW, ← e2] at hfl
            obtain ⟨g, o, c3, e, _, _⟩ := OwnT.form (H.ok _ (List.mem_cons_of_mem _ List.mem_cons_self)) (by omega)
            simp only [Value.slice.injEq, true_and] at e
            obtain ⟨rfl, rfl⟩ := e
            have RX := Lib.hid (show ∀ (l' : List Thing) (w' : World), OwnT 30 1 (.slice (some ⟨g, o, none⟩) ln c2) ln (L.map pv) ∈ l' → Heap W l' w' → w'.cell? ⟨g, o + i, none⟩ = some (.int .u8 (x : Int)) ∧ w'.cell? ⟨g, o + (i + 1), none⟩ = some (.int .u8 (y : Int)) from fun l' w' hm h => ⟨rd_party (h.ownRd hm) x1, rd_party (h.ownRd hm) x2⟩)
            have HN := Lib.hid (And.intro hps hfl)
            have GP := Lib.hid (show ∀ (l' : List Thing) (w' : World), Heap W (Gr q c1 :: l') w' → _ from fun l' w' hh => gpush_H (W := W) (l := l') (w := w') (p := q) (c := c1) x y m (by omega) (by omega) hpc1 hh)
            have HPP := Lib.hid (hpc1.push x y m)
            have hn1 : P1.length + 1 ≤ maxLen := by unfold maxLen; omega
            have hn2 : (P1.length + 1) * 16 ≤ 140737488355328 := by omega
            clear hps hfl e1 e2 x1 x2 hpc1
            gi_wp2
            refine region_in_K [11] [0, 1, 2, 3, 4, 5, 6, 7, 8, 9, 10, 11] [OwnT 30 1 (.slice (some ⟨g, o, none⟩) ln c2) ln (L.map pv), Cel bg #[.pointer (some ⟨q, 0, none⟩)] 28] H (keeps2 (by (repeat (first | (with_reducible exact List.mem_cons_self) | with_reducible apply List.mem_cons_of_mem))) (by (repeat (first | (with_reducible exact List.mem_cons_self) | with_reducible apply List.mem_cons_of_mem)))) (by kernel_rfl) (by kernel_rfl) (fun ⟨_, _, h⟩ => h) (by kernel_rfl) ?_
            iterate 11 (apply wpK_step; (· rfl); (· rfl); (· rfl); (· exact Nat.le_of_ble_eq_true rfl); (· intro l0 hs0 w0 H0; (first | go_big_quiet_skip | first | ((with_reducible apply wpQ_loadAt); (· exact cell_party); (· rfl); (· rfl); (· first | exact fun w' h => (RX.out _ w' (hs0 _ List.mem_cons_self) h).1 | exact fun w' h => (RX.out _ w' (hs0 _ List.mem_cons_self) h).2); (simp only [Act.put, List.setIfInBounds_toArray, List.set_cons_zero, List.set_cons_succ])) | ((with_reducible apply wpQ_loadCH); (· exact cell_pg7); (· rfl); (· rfl); (· exact hs0 _ (by (repeat (first | (with_reducible exact List.mem_cons_self) | with_reducible apply List.mem_cons_of_mem)))); (· exact one_g _); (simp only [Act.put, List.setIfInBounds_toArray, List.set_cons_zero, List.set_cons_succ])) | go_big_quiet_step (fail)); (refine wpQuiet_nil ?_); (simp only [Array.getD_eq_getD_getElem?, List.getElem?_toArray, List.getElem?_cons_succ, List.getElem?_cons_zero, Option.getD_some]; rfl)); (simp only [Act.put, List.setIfInBounds_toArray, List.set_cons_zero, List.set_cons_succ]))
            refine wpK_call (f := 17) (argl := [.pointer (some ⟨q, 0, none⟩), .int .u8 (x : Int), .int .u8 (y : Int), .int .i64 m]) rfl rfl rfl Try.call17 rfl ?_
            intro w0 H0
            refine (GP.out _ _ (H0.pull (.there (.there (.there (.there (.there (.there .here)))))))).mono ?_
            clear H0
            rintro e w7 ⟨rfl, H1⟩
            have H2 : Heap W (ObjT (D + 1) (.loop r1) :: OwnT 30 1 (.slice (some ⟨g, o, none⟩) ln c2) ln (L.map pv) :: RtL l D b1 b2 b3 q f t bg bw bp bo want (pushT c1 x y m) n v1 P1) w7 := H1.push (.there (.there (.there (.there (.there (.there .here))))))
            refine ⟨_, _, rfl, H2, _, Keeps.refl _, keeps2 (by (repeat (first | (with_reducible exact List.mem_cons_self) | with_reducible apply List.mem_cons_of_mem))) (by (repeat (first | (with_reducible exact List.mem_cons_self) | with_reducible apply List.mem_cons_of_mem))), ?_⟩
            clear H1 H2
            (simp only [Act.put, List.setIfInBounds_toArray, List.set_cons_zero, List.set_cons_succ])
            (refine wpK_nil ?_; clear H; intro _ H)
            gi_wp2
            refine region_in_F [12, 13, 14] [13, 14] [0, 1, 2, 3, 4, 5, 6, 7, 8, 9, 10, 11, 12, 13, 14] (Keeps [OwnT 30 1 (.slice (some ⟨g, o, none⟩) ln c2) ln (L.map pv)]) (Keeps [Cel bp #[v1] 24]) H (by kernel_rfl) (by kernel_rfl) (fun ⟨_, _, h⟩ => h) (by kernel_rfl) ?_
            (apply wpF_early; (· rfl); (· rfl); (· kernel_rfl); (· rfl); (· exact Nat.le_of_ble_eq_true rfl); (· exact keeps1 (by (repeat (first | (with_reducible exact List.mem_cons_self) | with_reducible apply List.mem_cons_of_mem)))); (· intro l0 hs0 w0 H0; (first | ((with_reducible apply wpQ_loadCH); (· exact cell_flows); (· rfl); (· rfl); (· exact hs0 _ List.mem_cons_self); (· exact one_g _); (simp only [Act.put, List.setIfInBounds_toArray, List.set_cons_zero, List.set_cons_succ]))); (refine wpQuiet_nil ?_); (simp only [Array.getD_eq_getD_getElem?, List.getElem?_toArray, List.getElem?_cons_succ, List.getElem?_cons_zero, Option.getD_some]; rfl)); (simp only [Act.put, List.setIfInBounds_toArray, List.set_cons_zero, List.set_cons_succ]))
            iterate 11 (apply wpF_step; (· rfl); (· rfl); (· rfl); (· exact Nat.le_of_ble_eq_true rfl); (· exact keeps1 (by (repeat (first | (with_reducible exact List.mem_cons_self) | with_reducible apply List.mem_cons_of_mem)))); (· intro l0 hs0 w0 H0; (first | go_big_quiet_skip | ((with_reducible apply wpQ_loadAt); (· exact cell_party); (· rfl); (· rfl); (· first | exact fun w' h => (RX.out _ w' (hs0 _ List.mem_cons_self) h).1 | exact fun w' h => (RX.out _ w' (hs0 _ List.mem_cons_self) h).2); (simp only [Act.put, List.setIfInBounds_toArray, List.set_cons_zero, List.set_cons_succ])) | go_big_quiet_step (fail)); (refine wpQuiet_nil ?_); (simp only [Array.getD_eq_getD_getElem?, List.getElem?_toArray, List.getElem?_cons_succ, List.getElem?_cons_zero, Option.getD_some]; rfl)); (simp only [Act.put, List.setIfInBounds_toArray, List.set_cons_zero, List.set_cons_succ]))
            refine wpF_bsR rfl rfl rfl bs_flow rfl (fun _ => keeps1 (by (repeat (first | (with_reducible exact List.mem_cons_self) | with_reducible apply List.mem_cons_of_mem)))) (fun _ _ => keeps1 (by (repeat (first | (with_reducible exact List.mem_cons_self) | with_reducible apply List.mem_cons_of_mem)))) ?_
            intro pf
            (simp only [Act.put, List.setIfInBounds_toArray, List.set_cons_zero, List.set_cons_succ])
            refine wpF_append slF rfl rfl rfl rfl (.there (.there (.there (.there (.there (.there (.there (.there (.there (.there (.there (.there .here)))))))))))) List.mem_cons_self rfl rfl (flowC_one _ _ _) hn1 hn2 rfl (fun _ => keeps1 (by (repeat (first | (with_reducible exact List.mem_cons_self) | with_reducible apply List.mem_cons_of_mem)))) ?_
            intro a5 c5
            (simp only [Act.put, List.setIfInBounds_toArray, List.set_cons_zero, List.set_cons_succ])
            refine wpF_storeS (v := .slice a5 (P1.length + 1) c5) cell_flows rfl rfl rfl rfl rfl ⟨rfl, rfl⟩ (by (repeat (first | (with_reducible exact List.mem_cons_self) | with_reducible apply List.mem_cons_of_mem))) (by (repeat (first | (with_reducible exact Repl.here) | with_reducible apply Repl.there))) rfl (keeps1 (by (repeat (first | (with_reducible exact List.mem_cons_self) | with_reducible apply List.mem_cons_of_mem)))) ?_
            (simp only [Act.put, List.setIfInBounds_toArray, List.set_cons_zero, List.set_cons_succ])
            (refine wpF_nil ?_; clear H; intro _ H)
            gi_wp2
            replace H := H.drop (.there .here)
            have eF : FlT (.slice a5 (P1.length + 1) c5) (P1 ++ [(⟨x, y, m⟩ : Flw)]).length (P1 ++ [(⟨x, y, m⟩ : Flw)]) = RowT 32 3 (.slice a5 (P1.length + 1) c5) (P1.length + 1) (flwL P1 ++ [.int .u8 (x : Int), .int .u8 (y : Int), .int .i64 m]) := flT_snoc _ _ _ _ _
            rw [← eF] at H
            have H2 := Heap.push (l := ObjT (D + 1) (.loop r1) :: OwnT 30 1 (.slice (some ⟨g, o, none⟩) ln c2) ln (L.map pv) :: RtL l D b1 b2 b3 q f t bg bw bp bo want (pushT c1 x y m) n (.slice a5 (P1.length + 1) c5) (P1 ++ [⟨x, y, m⟩])) H (.there (.there (.there (.there (.there (.there (.there (.there (.there (.there (.there .here)))))))))))
            go_roundw
            case rel => exact ⟨i + 1, _, _, _, by go_num, by omega, HPP.out, HN.out.1, by rw [List.append_assoc]; exact HN.out.2, by rw [List.length_append, List.length_singleton]; omega, H2⟩
            case measure => simp [intOf]; omega
          · obtain rfl : ln = i + 1 := by omega
            have g4 : decide ((i : Int) < ((i + 1 : Nat) : Int) - 1) = false := by simp
            obtain ⟨x, hx⟩ := drop_last HL.out.2.1
            rw [HL.out.2.2.1, Nat.add_sub_cancel] at hx
            rw [hx, psW_end] at hps
            rw [hx, flW_end, List.append_nil] at hfl
            have HT2 := HL.out.2.2.2.2.snoc hpos HL.out.1 HL.out.2.1
            rw [HM.out.1, ← hps, ← hfl] at HT2
            have HT3 := Lib.hid HT2
            have hsum : wrap64 (want - n + m) = want - n + m := IntWalk.wrap64_in _ ⟨by omega, by omega⟩
            clear hps hfl hpc1 hx HT2
            have eq1 : want - n + m = want - (n - m) := by omega
            by_cases hmn : m = n
            · have g6 : ((want - n + m) == want) = true := by simp; omega
              gi_wp2_with (refine wpList_in (fun ⟨_, _, h⟩ => h) _ _ _ (by kernel_rfl) ?_; go_wp2_with (first | go_skip | ((with_reducible show wpList _ _ _ (_ :: _) _ _); (with_reducible apply wpl_loadCH); (· first | exact cell_i64 | exact cell_pg7); (· rfl); (· rfl); (· exact H); (· (repeat (first | (with_reducible exact List.mem_cons_self) | with_reducible apply List.mem_cons_of_mem))); (· exact one_g _); (simp only [Act.put, List.setIfInBounds_toArray, List.set_cons_zero, List.set_cons_succ])) | ((with_reducible show wpList _ _ _ (_ :: _) _ _); (with_reducible apply wpl_storeIH); (· exact cell_i64); (· rfl); (· rfl); (· rfl); (· exact H); (· (repeat (first | (with_reducible exact List.mem_cons_self) | with_reducible apply List.mem_cons_of_mem))); (· exact Nat.le_refl 1); (· rfl); (· (repeat (first | (with_reducible exact Repl.here) | with_reducible apply Repl.there))); (clear H; intro _ H); (simp only [Act.put, List.setIfInBounds_toArray, List.set_cons_zero, List.set_cons_succ]))))
              refine ⟨RtL l D b1 b2 b3 q f t bg bw bp bo want c1 0 v1 P1, ?_, rfl, c1, v1, P1, ?_, rfl⟩
              · unfold RtL; rw [Int.sub_zero]; exact H.drop (.there .here)
              · have := HT3.out
                rwa [show n - m = 0 by omega] at this
            · have g6 : ((want - n + m) == want) = false := by simp; omega
              gi_wp2_with (refine wpList_in (fun ⟨_, _, h⟩ => h) _ _ _ (by kernel_rfl) ?_; go_wp2_with (first | go_skip | ((with_reducible show wpList _ _ _ (_ :: _) _ _); (with_reducible apply wpl_loadCH); (· first | exact cell_i64 | exact cell_pg7); (· rfl); (· rfl); (· exact H); (· (repeat (first | (with_reducible exact List.mem_cons_self) | with_reducible apply List.mem_cons_of_mem))); (· exact one_g _); (simp only [Act.put, List.setIfInBounds_toArray, List.set_cons_zero, List.set_cons_succ])) | ((with_reducible show wpList _ _ _ (_ :: _) _ _); (with_reducible apply wpl_storeIH); (· exact cell_i64); (· rfl); (· rfl); (· rfl); (· exact H); (· (repeat (first | (with_reducible exact List.mem_cons_self) | with_reducible apply List.mem_cons_of_mem))); (· exact Nat.le_refl 1); (· rfl); (· (repeat (first | (with_reducible exact Repl.here) | with_reducible apply Repl.there))); (clear H; intro _ H); (simp only [Act.put, List.setIfInBounds_toArray, List.set_cons_zero, List.set_cons_succ]))))
              refine ⟨RtL l D b1 b2 b3 q f t bg bw bp bo want c1 (n - m) v1 P1, ?_, c1, n - m, v1, P1, HT3.out, by omega, by omega, rfl⟩
              unfold RtL; exact H.drop (.there .here)
end
end Go.Proofs.Ytgobnamhdkbbeaa

/- Shortest ways where there are none. -/
namespace Go.Proofs.Ytgobnamhdkbbeaa
set_option linter.unusedVariables false
theorem short_zero {f t : Nat} {L : List Nat} (h : IsShort (fun _ _ => 0) f t L) : L = [] := by
  rcases h with ⟨h, _⟩ | ⟨_, _, hne, d, hd, h, _⟩
  · exact h
  · obtain ⟨q, hA, _⟩ := hd.par f h hne
    exfalso
    unfold edge capOf at hA
    split at hA <;> simp at hA
theorem short_bad {c : Caps} {f t : Nat} {L : List Nat} (h : IsShort c f t L) (hb : mayP f = false ∨ mayP t = false ∨ f = t) : L = [] := by
  rcases h with ⟨h, _⟩ | ⟨h1, h2, hne, _⟩
  · exact h
  · rcases hb with hb | hb | hb
    · rw [h1] at hb; cases hb
    · rw [h2] at hb; cases hb
    · exact absurd hb hne
end Go.Proofs.Ytgobnamhdkbbeaa
