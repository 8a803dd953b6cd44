/- A region that draws its order, with loud operations in one order, whose reads may be of what the loud ones change: a read that every loud one stands behind reads the things as they are (a swap: s[i], s[j] = s[j], s[i]). -/
import Derived.Test.YtacglcpjbepfnaaHeapRegion
namespace Go.Proofs.Ytacglcpjbepfnaa
open Go.RowKit
set_option linter.unusedVariables false
section
variable {P : Program} {ops : Array Oper} {md : Region.Mode} {W : World} {G : List Thing → Prop} {loud : List Nat}
def WholeE (P : Program) (md : Region.Mode) (ops : Array Oper) (W : World) (G : List Thing → Prop) (loud : List Nat) (K : List Thing → Act → Prop) : Nat → List Thing → Array Bool → Act → Prop
  | 0, l, listed, a => Region.ready md ops listed = [] ∧ K l a
  | f + 1, l, listed, a => Region.ready md ops listed ≠ [] ∧ ∀ i ∈ Region.ready md ops listed, ∃ o, ops[i]? = some o ∧
      ((∃ v, YieldsG P ops W (fun l' => l' = l) o v a ∧ WholeE P md ops W G loud K f l (listed.setIfInBounds i true) (a.put o.dst v)) ∨
       (loud.contains i = true ∧ LoudG P ops W o l a fun l' u => G l' ∧ WholeE P md ops W G loud K f l' (listed.setIfInBounds i true) (a.put o.dst u)))
theorem WholeE.any {K : List Thing → Act → Prop} {Q : Exit → Act → World → Prop} (hK : ∀ l a w, Heap W l w → K l a → Q .normal a w) :
    ∀ (f : Nat) (l : List Thing) (listed : Array Bool) (a : Act) (w : World), Heap W l w → WholeE P md ops W G loud K f l listed a → wpAny P md ops Q f listed a w := by
  intro f
  induction f with
  | zero => intro l listed a w H h; exact ⟨h.1, hK _ _ _ H h.2⟩
  | succ f ih =>
    intro l listed a w H h
    refine ⟨fun h0 => absurd h0 h.1, fun i hi => ?_⟩
    obtain ⟨o, ho, h⟩ := h.2 i hi
    rcases h with ⟨v, hy, h⟩ | ⟨_, h⟩
    · refine wpOp_of_qOp (C := fun w' => ∃ d, w' = H.any d) (H.any_of H) (fun a' w' hw' ha' => ?_) ((hy l rfl w H).qOp ho (K := fun a' => a' = a.put o.dst v) rfl)
      obtain ⟨d, rfl⟩ := hw'
      subst ha'
      exact ih _ _ _ _ (H.any_heap d) h
    · obtain ⟨l', u, w', hr, H', _, hk⟩ := h.2 w H
      unfold wpOp
      simp only [ho]
      rw [if_pos h.1]
      refine .inl ?_
      unfold Oper.wp
      rcases hr with hr | ⟨hr, rfl⟩ <;> rw [hr] <;> exact ih _ _ _ _ H' hk
/-- Every loud one stands behind it. -/
def Region.early (md : Region.Mode) (ops : Array Oper) (loud : List Nat) (k : Nat) : Bool := loud.all fun j => match ops[j]? with
  | some o => o.after.any fun e => Region.binds md e && e.on == k
  | none => true
theorem Region.early_spec {k j : Nat} {o : Oper} (h : Region.early md ops loud k = true) (hj : loud.contains j = true) (ho : ops[j]? = some o) : ∃ e ∈ o.after, Region.binds md e = true ∧ e.on = k := by
  unfold Region.early at h
  rw [List.all_eq_true] at h
  have := h j (by simpa using hj)
  rw [ho] at this
  simp only [Array.any_eq_true, Bool.and_eq_true, beq_iff_eq] at this
  obtain ⟨i, hi, h1, h2⟩ := this
  exact ⟨o.after[i], Array.getElem_mem hi, h1, h2⟩
/-- It yields v: whatever the things, or early, as they are. -/
def Firm (P : Program) (md : Region.Mode) (ops : Array Oper) (W : World) (G : List Thing → Prop) (loud : List Nat) (k : Nat) (l : List Thing) (o : Oper) (v : Value) (a : Act) : Prop :=
  (G l ∧ YieldsG P ops W G o v a) ∨ (Region.early md ops loud k = true ∧ YieldsG P ops W (fun l' => l' = l) o v a)
theorem Firm.now {k : Nat} {l : List Thing} {o : Oper} {v : Value} {a : Act} (h : Firm P md ops W G loud k l o v a) : YieldsG P ops W (fun l' => l' = l) o v a := by
  rcases h with ⟨hg, h⟩ | ⟨_, h⟩
  · intro l' e w H; subst e; exact h _ hg w H
  · exact h
theorem Firm.of_same {k : Nat} {l : List Thing} {o : Oper} {v : Value} {a a' : Act} (h : Firm P md ops W G loud k l o v a) (he : execOp a'.eval o = execOp a.eval o)
    (hw : Region.wanted o (yielded ops a'.tmps) = Region.wanted o (yielded ops a.tmps)) : Firm P md ops W G loud k l o v a' := by
  rcases h with ⟨hg, h⟩ | ⟨h0, h⟩
  · exact .inl ⟨hg, h.of_same he hw⟩
  · exact .inr ⟨h0, h.of_same he hw⟩
theorem WholeE.first {i : Nat} {oi : Oper} {v : Value} {K : List Thing → Act → Prop} (hi : ops[i]? = some oi) (hsel : ∀ (j : Nat) (o : Oper) cs b, ops[j]? = some o → o.op ≠ .select cs b) :
    ∀ (f : Nat) (l : List Thing) (listed : Array Bool) (a : Act),
      (∀ j oj, ops[j]? = some oj → j ≠ i → listed.getD j true = false → (∀ e ∈ oj.after, Region.binds md e = true → e.on ≠ i) → oi.apart ops oj = true) →
      i ∈ Region.ready md ops listed → Firm P md ops W G loud i l oi v a → WholeE P md ops W G loud K f l (listed.setIfInBounds i true) (a.put oi.dst v) → WholeE P md ops W G loud K (f + 1) l listed a := by
  intro f
  induction f with
  | zero =>
    intro l listed a _ hr hy H
    refine ⟨fun h => by rw [h] at hr; simp at hr, fun j hj => ?_⟩
    by_cases e : j = i
    · subst e; exact ⟨oi, hi, .inl ⟨v, hy.now, H⟩⟩
    · have := ready_mono hj e
      rw [H.1] at this; cases this
  | succ f ih =>
    intro l listed a hfree hr hy H
    have hun := (mem_ready.1 hr).1
    refine ⟨fun h => by rw [h] at hr; simp at hr, fun j hj => ?_⟩
    by_cases e : j = i
    · subst e; exact ⟨oi, hi, .inl ⟨v, hy.now, H⟩⟩
    · obtain ⟨hjun, oj, hoj, hall⟩ := mem_ready.1 hj
      have hnot : ∀ e ∈ oj.after, Region.binds md e = true → e.on ≠ i := fun e he hb heq => by
        have := hall e he hb
        rw [heq, getD_both hun] at this
        cases this
      obtain ⟨h1, h2, h3⟩ := Oper.apart_spec (hfree j oj hoj e hjun hnot)
      have hsi := fun cs b => hsel i oi cs b hi
      have hsj := fun cs b => hsel j oj cs b hoj
      have hfree' : ∀ k ok, ops[k]? = some ok → k ≠ i → (listed.setIfInBounds j true).getD k true = false →
          (∀ e ∈ ok.after, Region.binds md e = true → e.on ≠ i) → oi.apart ops ok = true := fun k ok hk hki hun hno => by
        refine hfree k ok hk hki ?_ hno
        by_cases hjk : j = k
        · subst hjk; exact hjun
        · rw [getD_set_ne true hjk] at hun; exact hun
      obtain ⟨o', ho', h⟩ := H.2 j (ready_mono hj e)
      obtain rfl : o' = oj := Option.some.inj (ho'.symm.trans hoj)
      refine ⟨o', hoj, ?_⟩
      rcases h with ⟨u, hu, h⟩ | ⟨hl, h⟩
      · refine .inl ⟨u, hu.of_same (execOp_put o' hsj a oi.dst v h1).symm (wanted_put o' a oi.dst v h1).symm, ih _ _ _ hfree' (ready_mono hr (Ne.symm e)) (hy.of_same (execOp_put oi hsi a o'.dst u h3) (wanted_put oi a o'.dst u h3)) ?_⟩
        rw [Array.setIfInBounds_comm _ _ e, ← Act.put_comm a v _ h2]
        exact h
      · rcases hy with ⟨hg, hy⟩ | ⟨he, _⟩
        · refine .inr ⟨hl, (h.of_same (execOp_put o' hsj a oi.dst v h1).symm (wanted_put o' a oi.dst v h1).symm).mono fun l' u ⟨hg', h⟩ => ⟨hg', ih _ _ _ hfree' (ready_mono hr (Ne.symm e)) (.inl ⟨hg', hy.of_same (execOp_put oi hsi a o'.dst u h3) (wanted_put oi a o'.dst u h3)⟩) ?_⟩⟩
          rw [Array.setIfInBounds_comm _ _ e, ← Act.put_comm a v _ h2]
          exact h
        · obtain ⟨ed, hed, hb, hon⟩ := Region.early_spec he hl hoj
          exact absurd hon (hnot ed hed hb)
/-- The walk in an order of one's own. -/
def wpE (P : Program) (ops : Array Oper) (W : World) (G : List Thing → Prop) (loud : List Nat) (K : List Thing → Act → Prop) : List Nat → List Thing → Act → Prop
  | [], l, a => K l a
  | k :: ks, l, a => ∃ o, ops[k]? = some o ∧ if loud.contains k then LoudG P ops W o l a fun l' u => G l' ∧ wpE P ops W G loud K ks l' (a.put o.dst u)
      else ∃ v, Firm P .any ops W G loud k l o v a ∧ wpE P ops W G loud K ks l (a.put o.dst v)
theorem WholeE.lexO {K : List Thing → Act → Prop} (hsel : Region.noSelect ops = true) :
    ∀ (ks : List Nat) (l : List Thing) (listed : Array Bool) (a : Act), Region.lexO .any ops loud ks listed = true → wpE P ops W G loud K ks l a → WholeE P .any ops W G loud K ks.length l listed a := by
  intro ks
  induction ks with
  | nil => intro l listed a hB h; exact ⟨by simpa [Region.lexO] using hB, h⟩
  | cons k ks ih =>
    intro l listed a hB h
    obtain ⟨o, h0, h⟩ := h
    rw [Region.lexO] at hB
    simp only [Bool.and_eq_true] at hB
    obtain ⟨hB, hB'⟩ := hB
    by_cases hk : loud.contains k = true
    · rw [if_pos hk] at h hB
      have hr : Region.ready .any ops listed = [k] := by simpa using hB
      refine ⟨by rw [hr]; simp, fun i hi => ?_⟩
      rw [hr] at hi
      obtain rfl : i = k := by simpa using hi
      exact ⟨o, h0, .inr ⟨hk, h.mono fun l' u ⟨hg, h⟩ => ⟨hg, ih _ _ _ hB' h⟩⟩⟩
    · rw [if_neg hk] at h hB
      simp only [Bool.and_eq_true] at hB
      obtain ⟨v, hy, h⟩ := h
      exact WholeE.first h0 (Region.noSelect_spec hsel) ks.length l listed a (Region.free_spec h0 hB.2) (by simpa using hB.1) hy (ih _ _ _ hB' h)
theorem wp_region_E {id : Nat} {Q : Exit → Act → World → Prop} {a : Act} {w : World} {l : List Thing} {lo : List Oper} (loud ord : List Nat) (G : List Thing → Prop) (H : Heap W l w) (hm : P.follows .mixedOrders = true) (hB : Region.lexOB lo.toArray loud ord = true)
    (h : wpE P lo.toArray W G loud (fun l' a' => ∀ w', Heap W l' w' → Q .normal a' w') ord l a) : (Code.region id lo.toArray true).wp P Q a w := by
  simp only [Region.lexOB, Bool.and_eq_true, beq_iff_eq] at hB
  refine wp_region_any hm ?_
  have := WholeE.lexO hB.1.1 ord l _ a hB.1.2 h
  have h2 := WholeE.any (Q := Q) (fun l a w H h => h w H) ord.length l _ a _ H.drew this
  rw [hB.2] at h2
  exact h2
theorem wpE_nil {K : List Thing → Act → Prop} {l : List Thing} {a : Act} (h : K l a) : wpE P ops W G loud K [] l a := h
theorem yields_of {G' : List Thing → Prop} {lo : List Oper} {o : Oper} {a : Act} {s : Nat} {v : Value} (hd : o.dst = some s) (hlt : s < a.tmps.size)
    (h1 : ∀ l0, G' l0 → ∀ (w0 : World) (H0 : Heap W l0 w0), wpQuiet P lo.toArray (fun w' => ∃ d, w' = H0.any d) (fun a' => a'.tmps.getD s undef = v) [o] a) : YieldsG P lo.toArray W G' o v a := by
  have inj : ∀ u, (a.put o.dst u).tmps.getD s undef = v → u = v := fun u h => by
    rw [hd] at h
    simp [Act.put, hlt] at h
    exact h
  intro l0 hl0 w0 H0
  have h := h1 l0 hl0 w0 H0
  unfold wpQuiet at h
  by_cases hw : Region.wanted o (yielded lo.toArray a.tmps) = true
  · rw [if_pos hw] at h
    obtain ⟨u, hu, hk⟩ := h
    obtain rfl := inj u hk
    exact .inl ⟨hw, hu⟩
  · rw [if_neg hw] at h
    exact .inr ⟨by simpa using hw, (inj undef h).symm⟩
/-- A quiet one that reads nothing of the things. -/
theorem wpE_step {lo : List Oper} {K : List Thing → Act → Prop} {o : Oper} {k : Nat} {ks : List Nat} {l : List Thing} {a : Act} {s : Nat} {v : Value} (ho : lo[k]? = some o) (hk : loud.contains k = false) (hd : o.dst = some s) (hlt : s < a.tmps.size)
    (h1 : ∀ l0, True → ∀ (w0 : World) (H0 : Heap W l0 w0), wpQuiet P lo.toArray (fun w' => ∃ d, w' = H0.any d) (fun a' => a'.tmps.getD s undef = v) [o] a) (h2 : wpE P lo.toArray W (fun _ => True) loud K ks l (a.put o.dst v)) : wpE P lo.toArray W (fun _ => True) loud K (k :: ks) l a := by
  refine ⟨o, by simpa using ho, ?_⟩
  rw [if_neg (by rw [hk]; exact Bool.false_ne_true)]
  exact ⟨v, .inl ⟨trivial, yields_of hd hlt h1⟩, h2⟩
/-- An early read. -/
theorem wpE_early {lo : List Oper} {K : List Thing → Act → Prop} {o : Oper} {k : Nat} {ks : List Nat} {l : List Thing} {a : Act} {s : Nat} {v : Value} (ho : lo[k]? = some o) (hk : loud.contains k = false) (he : Region.early .any lo.toArray loud k = true) (hd : o.dst = some s) (hlt : s < a.tmps.size)
    (h1 : ∀ (w0 : World) (H0 : Heap W l w0), wpQuiet P lo.toArray (fun w' => ∃ d, w' = H0.any d) (fun a' => a'.tmps.getD s undef = v) [o] a) (h2 : wpE P lo.toArray W G loud K ks l (a.put o.dst v)) : wpE P lo.toArray W G loud K (k :: ks) l a := by
  refine ⟨o, by simpa using ho, ?_⟩
  rw [if_neg (by rw [hk]; exact Bool.false_ne_true)]
  exact ⟨v, .inr ⟨he, yields_of hd hlt fun l0 e w0 H0 => by subst e; exact h1 w0 H0⟩, h2⟩
theorem wpE_loud {lo : List Oper} {K : List Thing → Act → Prop} {o : Oper} {k : Nat} {ks : List Nat} {l : List Thing} {a : Act} (ho : lo[k]? = some o) (hk : loud.contains k = true) (h : LoudG P lo.toArray W o l a fun l' u => G l' ∧ wpE P lo.toArray W G loud K ks l' (a.put o.dst u)) : wpE P lo.toArray W G loud K (k :: ks) l a := by
  refine ⟨o, by simpa using ho, ?_⟩
  rw [if_pos hk]
  exact h
end
section
variable {ops : Array Oper} {W : World} {loud : List Nat} {K : List Thing → Act → Prop} {l : List Thing} {a : Act}
theorem wpE_storeC {lo : List Oper} {ks : List Nat} {k : Nat} {T : TypeId} {dst : Option Tmp} {ty : TypeId} {pos : String} {after : Array Edge} {guard : Option (Nat × Bool)} {x y : Operand} {b off : Nat} {v : Value} (CT : CellTy T) (ho : lo[k]? = some ⟨dst, .store T x y, ty, pos, after, guard⟩) (hk : loud.contains k = true) (hw : Region.wanted ⟨dst, .store T x y, ty, pos, after, guard⟩ (yielded lo.toArray a.tmps) = true) (hx : a.eval x = .pointer (some ⟨b, off, none⟩)) (hy : a.eval y = v) (hc : v.cells = #[v] ∧ v.oneCell' = true)
    {c c1 : Array Value} {t : TypeId} {l' : List Thing} (m : Cel b c t ∈ l) (hn : off < c.size) (hs : c.setIfInBounds off v = c1) (r : Repl l (Cel b c t) (Cel b c1 t) l')
    (h : wpE Try.prog lo.toArray W (fun _ => True) loud K ks l' (a.put dst undef)) : wpE Try.prog lo.toArray W (fun _ => True) loud K (k :: ks) l a := by
  subst hs
  refine wpE_loud ho hk ⟨hw, fun w H => ⟨l', undef, setBlk w b (c.setIfInBounds off v), .inr ⟨?_, rfl⟩, H.set r, trivial, h⟩⟩
  unfold execOp
  simp only [hx, hy, Sem.run_bind, run_storeC CT hc (H.blk m) hn, Result.andThen_ok]
  rfl
theorem wpE_storeI {lo : List Oper} {ks : List Nat} {k : Nat} {T : TypeId} {dst : Option Tmp} {ty : TypeId} {pos : String} {after : Array Edge} {guard : Option (Nat × Bool)} {x y : Operand} {b off : Nat} {k0 : IntKind} {n0 : Int} (CT : CellTy T) (ho : lo[k]? = some ⟨dst, .store T x y, ty, pos, after, guard⟩) (hk : loud.contains k = true) (hw : Region.wanted ⟨dst, .store T x y, ty, pos, after, guard⟩ (yielded lo.toArray a.tmps) = true) (hx : a.eval x = .pointer (some ⟨b, off, none⟩)) (hy : a.eval y = .int k0 n0)
    {c c1 : Array Value} {t : TypeId} {l' : List Thing} (m : Cel b c t ∈ l) (hn : off < c.size) (hs : c.setIfInBounds off (.int k0 n0) = c1) (r : Repl l (Cel b c t) (Cel b c1 t) l')
    (h : wpE Try.prog lo.toArray W (fun _ => True) loud K ks l' (a.put dst undef)) : wpE Try.prog lo.toArray W (fun _ => True) loud K (k :: ks) l a := wpE_storeC CT ho hk hw hx hy ⟨rfl, rfl⟩ m hn hs r h
end
end Go.Proofs.Ytacglcpjbepfnaa
