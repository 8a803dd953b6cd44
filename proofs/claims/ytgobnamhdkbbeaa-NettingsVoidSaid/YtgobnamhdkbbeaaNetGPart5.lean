/- Part 5 of what several laws stand on: HeapEarly, Reverse, May6, HeapClear, Clone6, Delete, Concat. -/
import Derived.Test.YtgobnamhdkbbeaaNetGPart4
import Derived.Lib.SliceRun
import Derived.Lib.AppendZeros
/- A region that draws its order, with loud operations in one order, whose reads may be of what the loud ones change: a read that every loud one stands behind reads the things as they are (a swap: s[i], s[j] = s[j], s[i]). -/
namespace Go.Proofs.Ytgobnamhdkbbeaa
open Go.RowKit
set_option linter.unusedVariables false
section
variable {P : Program} {ops : Array Oper} {md : Region.Mode} {W : World} {G : List Thing → Prop} {loud : List Nat}
def WholeE (P : Program) (md : Region.Mode) (ops : Array Oper) (W : World) (G : List Thing → Prop) (loud : List Nat) (K : List Thing → Act → Prop) : Nat → List Thing → Array Bool → Act → Prop
  | 0, l, listed, a => Region.ready md ops listed = [] ∧ K l a
  | f + 1, l, listed, a => Region.ready md ops listed ≠ [] ∧ ∀ i ∈ Region.ready md ops listed, ∃ o, ops[i]? = some o ∧
      ((∃ v, YieldsG P ops W (fun l' => l' = l) o v a ∧ WholeE P md ops W G loud K f l (listed.setIfInBounds i true) (a.put o.dst v)) ∨
       (loud.contains i = true ∧ LoudG P ops W o l a fun l' u => G l' ∧ WholeE P md ops W G loud K f l' (listed.setIfInBounds i true) (a.put o.dst u)))
theorem WholeE.any {K : List Thing → Act → Prop} {Q : Exit → Act → World → Prop} (hK : ∀ l a w, Heap W l w → K l a → Q .normal a w) :
    ∀ (f : Nat) (l : List Thing) (listed : Array Bool) (a : Act) (w : World), Heap W l w → WholeE P md ops W G loud K f l listed a → wpAny P md ops Q f listed a w := by
  intro f
  induction f with
  | zero => intro l listed a w H h; exact ⟨h.1, hK _ _ _ H h.2⟩
  | succ f ih =>
    intro l listed a w H h
    refine ⟨fun h0 => absurd h0 h.1, fun i hi => ?_⟩
    obtain ⟨o, ho, h⟩ := h.2 i hi
    rcases h with ⟨v, hy, h⟩ | ⟨_, h⟩
    · refine wpOp_of_qOp (C := fun w' => ∃ d, w' = H.any d) (H.any_of H) (fun a' w' hw' ha' => ?_) ((hy l rfl w H).qOp ho (K := fun a' => a' = a.put o.dst v) rfl)
      obtain ⟨d, rfl⟩ := hw'
      subst ha'
      exact ih _ _ _ _ (H.any_heap d) h
    · obtain ⟨l', u, w', hr, H', _, hk⟩ := h.2 w H
      unfold wpOp
      simp only [ho]
      rw [if_pos h.1]
      refine .inl ?_
      unfold Oper.wp
      rcases hr with hr | ⟨hr, rfl⟩ <;> rw [hr] <;> exact ih _ _ _ _ H' hk
/-- Every loud one stands behind it. -/
def Region.early (md : Region.Mode) (ops : Array Oper) (loud : List Nat) (k : Nat) : Bool := loud.all fun j => match ops[j]? with
  | some o => o.after.any fun e => Region.binds md e && e.on == k
  | none => true
theorem Region.early_spec {k j : Nat} {o : Oper} (h : Region.early md ops loud k = true) (hj : loud.contains j = true) (ho : ops[j]? = some o) : ∃ e ∈ o.after, Region.binds md e = true ∧ e.on = k := by
  unfold Region.early at h
  rw [List.all_eq_true] at h
  have := h j (by simpa using hj)
  rw [ho] at this
  simp only [Array.any_eq_true, Bool.and_eq_true, beq_iff_eq] at this
  obtain ⟨i, hi, h1, h2⟩ := this
  exact ⟨o.after[i], Array.getElem_mem hi, h1, h2⟩
/-- It yields v: whatever the things, or early, as they are. -/
def Firm (P : Program) (md : Region.Mode) (ops : Array Oper) (W : World) (G : List Thing → Prop) (loud : List Nat) (k : Nat) (l : List Thing) (o : Oper) (v : Value) (a : Act) : Prop :=
  (G l ∧ YieldsG P ops W G o v a) ∨ (Region.early md ops loud k = true ∧ YieldsG P ops W (fun l' => l' = l) o v a)
theorem Firm.now {k : Nat} {l : List Thing} {o : Oper} {v : Value} {a : Act} (h : Firm P md ops W G loud k l o v a) : YieldsG P ops W (fun l' => l' = l) o v a := by
  rcases h with ⟨hg, h⟩ | ⟨_, h⟩
  · intro l' e w H; subst e; exact h _ hg w H
  · exact h
theorem Firm.of_same {k : Nat} {l : List Thing} {o : Oper} {v : Value} {a a' : Act} (h : Firm P md ops W G loud k l o v a) (he : execOp a'.eval o = execOp a.eval o)
    (hw : Region.wanted o (yielded ops a'.tmps) = Region.wanted o (yielded ops a.tmps)) : Firm P md ops W G loud k l o v a' := by
  rcases h with ⟨hg, h⟩ | ⟨h0, h⟩
  · exact .inl ⟨hg, h.of_same he hw⟩
  · exact .inr ⟨h0, h.of_same he hw⟩
theorem WholeE.first {i : Nat} {oi : Oper} {v : Value} {K : List Thing → Act → Prop} (hi : ops[i]? = some oi) (hsel : ∀ (j : Nat) (o : Oper) cs b, ops[j]? = some o → o.op ≠ .select cs b) :
    ∀ (f : Nat) (l : List Thing) (listed : Array Bool) (a : Act),
      (∀ j oj, ops[j]? = some oj → j ≠ i → listed.getD j true = false → (∀ e ∈ oj.after, Region.binds md e = true → e.on ≠ i) → oi.apart ops oj = true) →
      i ∈ Region.ready md ops listed → Firm P md ops W G loud i l oi v a → WholeE P md ops W G loud K f l (listed.setIfInBounds i true) (a.put oi.dst v) → WholeE P md ops W G loud K (f + 1) l listed a := by
  intro f
  induction f with
  | zero =>
    intro l listed a _ hr hy H
    refine ⟨fun h => by rw [h] at hr; simp at hr, fun j hj => ?_⟩
    by_cases e : j = i
    · subst e; exact ⟨oi, hi, .inl ⟨v, hy.now, H⟩⟩
    · have := ready_mono hj e
      rw [H.1] at this; cases this
  | succ f ih =>
    intro l listed a hfree hr hy H
    have hun := (mem_ready.1 hr).1
    refine ⟨fun h => by rw [h] at hr; simp at hr, fun j hj => ?_⟩
    by_cases e : j = i
    · subst e; exact ⟨oi, hi, .inl ⟨v, hy.now, H⟩⟩
    · obtain ⟨hjun, oj, hoj, hall⟩ := mem_ready.1 hj
      have hnot : ∀ e ∈ oj.after, Region.binds md e = true → e.on ≠ i := fun e he hb heq => by
        have := hall e he hb
        rw [heq, getD_both hun] at this
        cases this
      obtain ⟨h1, h2, h3⟩ := Oper.apart_spec (hfree j oj hoj e hjun hnot)
      have hsi := fun cs b => hsel i oi cs b hi
      have hsj := fun cs b => hsel j oj cs b hoj
      have hfree' : ∀ k ok, ops[k]? = some ok → k ≠ i → (listed.setIfInBounds j true).getD k true = false →
          (∀ e ∈ ok.after, Region.binds md e = true → e.on ≠ i) → oi.apart ops ok = true := fun k ok hk hki hun hno => by
        refine hfree k ok hk hki ?_ hno
        by_cases hjk : j = k
        · subst hjk; exact hjun
        · rw [getD_set_ne true hjk] at hun; exact hun
      obtain ⟨o', ho', h⟩ := H.2 j (ready_mono hj e)
      obtain rfl : o' = oj := Option.some.inj (ho'.symm.trans hoj)
      refine ⟨o', hoj, ?_⟩
      rcases h with ⟨u, hu, h⟩ | ⟨hl, h⟩
      · refine .inl ⟨u, hu.of_same (execOp_put o' hsj a oi.dst v h1).symm (wanted_put o' a oi.dst v h1).symm, ih _ _ _ hfree' (ready_mono hr (Ne.symm e)) (hy.of_same (execOp_put oi hsi a o'.dst u h3) (wanted_put oi a o'.dst u h3)) ?_⟩
        rw [Array.setIfInBounds_comm _ _ e, ← Act.put_comm a v _ h2]
        exact h
      · rcases hy with ⟨hg, hy⟩ | ⟨he, _⟩
        · refine .inr ⟨hl, (h.of_same (execOp_put o' hsj a oi.dst v h1).symm (wanted_put o' a oi.dst v h1).symm).mono fun l' u ⟨hg', h⟩ => ⟨hg', ih _ _ _ hfree' (ready_mono hr (Ne.symm e)) (.inl ⟨hg', hy.of_same (execOp_put oi hsi a o'.dst u h3) (wanted_put oi a o'.dst u h3)⟩) ?_⟩⟩
          rw [Array.setIfInBounds_comm _ _ e, ← Act.put_comm a v _ h2]
          exact h
        · obtain ⟨ed, hed, hb, hon⟩ := Region.early_spec he hl hoj
          exact absurd hon (hnot ed hed hb)
/-- The walk in an order of one's own. -/
def wpE (P : Program) (ops : Array Oper) (W : World) (G : List Thing → Prop) (loud : List Nat) (K : List Thing → Act → Prop) : List Nat → List Thing → Act → Prop
  | [], l, a => K l a
  | k :: ks, l, a => ∃ o, ops[k]? = some o ∧ if loud.contains k then LoudG P ops W o l a fun l' u => G l' ∧ wpE P ops W G loud K ks l' (a.put o.dst u)
      else ∃ v, Firm P .any ops W G loud k l o v a ∧ wpE P ops W G loud K ks l (a.put o.dst v)
theorem WholeE.lexO {K : List Thing → Act → Prop} (hsel : Region.noSelect ops = true) :
    ∀ (ks : List Nat) (l : List Thing) (listed : Array Bool) (a : Act), Region.lexO .any ops loud ks listed = true → wpE P ops W G loud K ks l a → WholeE P .any ops W G loud K ks.length l listed a := by
  intro ks
  induction ks with
  | nil => intro l listed a hB h; exact ⟨by simpa [Region.lexO] using hB, h⟩
  | cons k ks ih =>
    intro l listed a hB h
    obtain ⟨o, h0, h⟩ := h
    rw [Region.lexO] at hB
    simp only [Bool.and_eq_true] at hB
    obtain ⟨hB, hB'⟩ := hB
    by_cases hk : loud.contains k = true
    · rw [if_pos hk] at h hB
      have hr : Region.ready .any ops listed = [k] := by simpa using hB
      refine ⟨by rw [hr]; simp, fun i hi => ?_⟩
      rw [hr] at hi
      obtain rfl : i = k := by simpa using hi
      exact ⟨o, h0, .inr ⟨hk, h.mono fun l' u ⟨hg, h⟩ => ⟨hg, ih _ _ _ hB' h⟩⟩⟩
    · rw [if_neg hk] at h hB
      simp only [Bool.and_eq_true] at hB
      obtain ⟨v, hy, h⟩ := h
      exact WholeE.first h0 (Region.noSelect_spec hsel) ks.length l listed a (Region.free_spec h0 hB.2) (by simpa using hB.1) hy (ih _ _ _ hB' h)
theorem wp_region_E {id : Nat} {Q : Exit → Act → World → Prop} {a : Act} {w : World} {l : List Thing} {lo : List Oper} (loud ord : List Nat) (G : List Thing → Prop) (H : Heap W l w) (hm : P.follows .mixedOrders = true) (hB : Region.lexOB lo.toArray loud ord = true)
    (h : wpE P lo.toArray W G loud (fun l' a' => ∀ w', Heap W l' w' → Q .normal a' w') ord l a) : (Code.region id lo.toArray true).wp P Q a w := by
  simp only [Region.lexOB, Bool.and_eq_true, beq_iff_eq] at hB
  refine wp_region_any hm ?_
  have := WholeE.lexO hB.1.1 ord l _ a hB.1.2 h
  have h2 := WholeE.any (Q := Q) (fun l a w H h => h w H) ord.length l _ a _ H.drew this
  rw [hB.2] at h2
  exact h2
theorem wpE_nil {K : List Thing → Act → Prop} {l : List Thing} {a : Act} (h : K l a) : wpE P ops W G loud K [] l a := h
theorem yields_of {G' : List Thing → Prop} {lo : List Oper} {o : Oper} {a : Act} {s : Nat} {v : Value} (hd : o.dst = some s) (hlt : s < a.tmps.size)
    (h1 : ∀ l0, G' l0 → ∀ (w0 : World) (H0 : Heap W l0 w0), wpQuiet P lo.toArray (fun w' => ∃ d, w' = H0.any d) (fun a' => a'.tmps.getD s undef = v) [o] a) : YieldsG P lo.toArray W G' o v a := by
  have inj : ∀ u, (a.put o.dst u).tmps.getD s undef = v → u = v := fun u h => by
    rw [hd] at h
    simp [Act.put, hlt] at h
    exact h
  intro l0 hl0 w0 H0
  have h := h1 l0 hl0 w0 H0
  unfold wpQuiet at h
  by_cases hw : Region.wanted o (yielded lo.toArray a.tmps) = true
  · rw [if_pos hw] at h
    obtain ⟨u, hu, hk⟩ := h
    obtain rfl := inj u hk
    exact .inl ⟨hw, hu⟩
  · rw [if_neg hw] at h
    exact .inr ⟨by simpa using hw, (inj undef h).symm⟩
/-- A quiet one that reads nothing of the things. -/
theorem wpE_step {lo : List Oper} {K : List Thing → Act → Prop} {o : Oper} {k : Nat} {ks : List Nat} {l : List Thing} {a : Act} {s : Nat} {v : Value} (ho : lo[k]? = some o) (hk : loud.contains k = false) (hd : o.dst = some s) (hlt : s < a.tmps.size)
    (h1 : ∀ l0, True → ∀ (w0 : World) (H0 : Heap W l0 w0), wpQuiet P lo.toArray (fun w' => ∃ d, w' = H0.any d) (fun a' => a'.tmps.getD s undef = v) [o] a) (h2 : wpE P lo.toArray W (fun _ => True) loud K ks l (a.put o.dst v)) : wpE P lo.toArray W (fun _ => True) loud K (k :: ks) l a := by
  refine ⟨o, by simpa using ho, ?_⟩
  rw [if_neg (by rw [hk]; exact Bool.false_ne_true)]
  exact ⟨v, .inl ⟨trivial, yields_of hd hlt h1⟩, h2⟩
/-- An early read. -/
theorem wpE_early {lo : List Oper} {K : List Thing → Act → Prop} {o : Oper} {k : Nat} {ks : List Nat} {l : List Thing} {a : Act} {s : Nat} {v : Value} (ho : lo[k]? = some o) (hk : loud.contains k = false) (he : Region.early .any lo.toArray loud k = true) (hd : o.dst = some s) (hlt : s < a.tmps.size)
    (h1 : ∀ (w0 : World) (H0 : Heap W l w0), wpQuiet P lo.toArray (fun w' => ∃ d, w' = H0.any d) (fun a' => a'.tmps.getD s undef = v) [o] a) (h2 : wpE P lo.toArray W G loud K ks l (a.put o.dst v)) : wpE P lo.toArray W G loud K (k :: ks) l a := by
  refine ⟨o, by simpa using ho, ?_⟩
  rw [if_neg (by rw [hk]; exact Bool.false_ne_true)]
  exact ⟨v, .inr ⟨he, yields_of hd hlt fun l0 e w0 H0 => by subst e; exact h1 w0 H0⟩, h2⟩
theorem wpE_loud {lo : List Oper} {K : List Thing → Act → Prop} {o : Oper} {k : Nat} {ks : List Nat} {l : List Thing} {a : Act} (ho : lo[k]? = some o) (hk : loud.contains k = true) (h : LoudG P lo.toArray W o l a fun l' u => G l' ∧ wpE P lo.toArray W G loud K ks l' (a.put o.dst u)) : wpE P lo.toArray W G loud K (k :: ks) l a := by
  refine ⟨o, by simpa using ho, ?_⟩
  rw [if_pos hk]
  exact h
end
section
variable {ops : Array Oper} {W : World} {loud : List Nat} {K : List Thing → Act → Prop} {l : List Thing} {a : Act}
theorem wpE_storeC {lo : List Oper} {ks : List Nat} {k : Nat} {T : TypeId} {dst : Option Tmp} {ty : TypeId} {pos : String} {after : Array Edge} {guard : Option (Nat × Bool)} {x y : Operand} {b off : Nat} {v : Value} (CT : CellTy T) (ho : lo[k]? = some ⟨dst, .store T x y, ty, pos, after, guard⟩) (hk : loud.contains k = true) (hw : Region.wanted ⟨dst, .store T x y, ty, pos, after, guard⟩ (yielded lo.toArray a.tmps) = true) (hx : a.eval x = .pointer (some ⟨b, off, none⟩)) (hy : a.eval y = v) (hc : v.cells = #[v] ∧ v.oneCell' = true)
    {c c1 : Array Value} {t : TypeId} {l' : List Thing} (m : Cel b c t ∈ l) (hn : off < c.size) (hs : c.setIfInBounds off v = c1) (r : Repl l (Cel b c t) (Cel b c1 t) l')
    (h : wpE Try.prog lo.toArray W (fun _ => True) loud K ks l' (a.put dst undef)) : wpE Try.prog lo.toArray W (fun _ => True) loud K (k :: ks) l a := by
  subst hs
  refine wpE_loud ho hk ⟨hw, fun w H => ⟨l', undef, setBlk w b (c.setIfInBounds off v), .inr ⟨?_, rfl⟩, H.set r, trivial, h⟩⟩
  unfold execOp
  simp only [hx, hy, Sem.run_bind, run_storeC CT hc (H.blk m) hn, Result.andThen_ok]
  rfl
theorem wpE_storeI {lo : List Oper} {ks : List Nat} {k : Nat} {T : TypeId} {dst : Option Tmp} {ty : TypeId} {pos : String} {after : Array Edge} {guard : Option (Nat × Bool)} {x y : Operand} {b off : Nat} {k0 : IntKind} {n0 : Int} (CT : CellTy T) (ho : lo[k]? = some ⟨dst, .store T x y, ty, pos, after, guard⟩) (hk : loud.contains k = true) (hw : Region.wanted ⟨dst, .store T x y, ty, pos, after, guard⟩ (yielded lo.toArray a.tmps) = true) (hx : a.eval x = .pointer (some ⟨b, off, none⟩)) (hy : a.eval y = .int k0 n0)
    {c c1 : Array Value} {t : TypeId} {l' : List Thing} (m : Cel b c t ∈ l) (hn : off < c.size) (hs : c.setIfInBounds off (.int k0 n0) = c1) (r : Repl l (Cel b c t) (Cel b c1 t) l')
    (h : wpE Try.prog lo.toArray W (fun _ => True) loud K ks l' (a.put dst undef)) : wpE Try.prog lo.toArray W (fun _ => True) loud K (k :: ks) l a := wpE_storeC CT ho hk hw hx hy ⟨rfl, rfl⟩ m hn hs r h
end
end Go.Proofs.Ytgobnamhdkbbeaa

/- slices.Reverse of parties. -/
namespace Go.Proofs.Ytgobnamhdkbbeaa
open Go.RowKit
set_option linter.unusedSimpArgs false
set_option linter.unusedVariables false
/-- A block that begins with these parties. -/
def pc (L : List Nat) (r : List Value) : Array Value := (L.map pv ++ r).toArray
theorem pc_sz (L : List Nat) (r : List Value) : (pc L r).size = L.length + r.length := by simp [pc]
theorem pc_get {L : List Nat} {r : List Value} {k x : Nat} (h : L[k]? = some x) : (pc L r)[k]? = some (.int .u8 (x : Int)) := by
  obtain ⟨hk, hx⟩ := List.getElem?_eq_some_iff.1 h
  unfold pc
  rw [List.getElem?_toArray, List.getElem?_append_left (by simpa using hk), List.getElem?_map, h]
  rfl
theorem pc_set {L : List Nat} {r : List Value} {k : Nat} (x : Nat) (h : k < L.length) : (pc L r).setIfInBounds k (.int .u8 (x : Int)) = pc (L.set k x) r := by
  unfold pc
  rw [List.setIfInBounds_toArray, List.set_append_left _ _ (by simpa using h)]
  congr 2
  rw [List.map_set]
  rfl
/-- Amid the turning: i from each end are changed. -/
def Turned (L M : List Nat) (i : Nat) : Prop := M.length = L.length ∧ ∀ k, k < L.length → M[k]? = if k < i ∨ L.length < k + 1 + i then L[L.length - 1 - k]? else L[k]?
theorem Turned.start (L : List Nat) : Turned L L 0 := ⟨rfl, fun k hk => by rw [if_neg (by omega)]⟩
theorem Turned.low {L M : List Nat} {i : Nat} (h : Turned L M i) (hi : i + i + 1 < L.length) : M[i]? = L[i]? := by
  rw [h.2 i (by omega), if_neg (by omega)]
theorem Turned.high {L M : List Nat} {i : Nat} (h : Turned L M i) (hi : i + i + 1 < L.length) : M[L.length - 1 - i]? = L[L.length - 1 - i]? := by
  rw [h.2 _ (by omega), if_neg (by omega)]
theorem Turned.step {L M : List Nat} {i x y : Nat} (h : Turned L M i) (hi : i + i + 1 < L.length) (hx : L[i]? = some x) (hy : L[L.length - 1 - i]? = some y) : Turned L ((M.set i y).set (L.length - 1 - i) x) (i + 1) := by
  refine ⟨by simp [h.1], fun k hk => ?_⟩
  by_cases e1 : k = L.length - 1 - i
  · subst e1
    rw [List.getElem?_set_self (by simp [h.1]; omega), if_pos (by omega), show L.length - 1 - (L.length - 1 - i) = i by omega, hx]
  · rw [List.getElem?_set_ne (Ne.symm e1)]
    by_cases e2 : k = i
    · subst e2
      rw [List.getElem?_set_self (by rw [h.1]; omega), if_pos (by omega), hy]
    · rw [List.getElem?_set_ne (Ne.symm e2), h.2 k hk]
      by_cases e3 : k < i ∨ L.length < k + 1 + i
      · rw [if_pos e3, if_pos (by omega)]
      · rw [if_neg e3, if_neg (by omega)]
theorem Turned.done {L M : List Nat} {i : Nat} (h : Turned L M i) (hi : L.length ≤ i + i + 1) : M = L.reverse := by
  apply List.ext_getElem?
  intro k
  by_cases hk : k < L.length
  · rw [h.2 k hk, List.getElem?_reverse hk]
    by_cases e : k < i ∨ L.length < k + 1 + i
    · rw [if_pos e]
    · rw [if_neg e, show L.length - 1 - k = k by omega]
  · rw [List.getElem?_eq_none (by rw [h.1]; omega), List.getElem?_eq_none (by simp; omega)]
structure RevLoop (W : World) (l : List Thing) (g : Nat) (L : List Nat) (r : List Value) (vi vj : Value) (wr : World) : Prop where
  out : ∃ (i : Nat) (M : List Nat), i + i ≤ L.length ∧ vi = .int .i64 (i : Int) ∧ vj = .int .i64 ((L.length : Int) - 1 - i) ∧ Turned L M i ∧ Heap W (Cel g (pc M r) 30 :: l) wr
section
variable {W w : World} {l : List Thing}
set_option maxRecDepth 100000
set_option maxHeartbeats 2000000
theorem reverse_H (g n c : Nat) (L : List Nat) (r : List Value) (hl : L.length = n) (hn : n ≤ 1000000) (H : Heap W (Cel g (pc L r) 30 :: l) w) :
    Calls Try.prog 138 #[.slice (some ⟨g, 0, none⟩) n c] w fun e w' => e = .returned (.tuple #[]) ∧ Heap W (Cel g (pc L.reverse r) 30 :: l) w' := by
  subst hl
  go_enter Try.func138, Try.ntmps138
  go_wp2_with (go_skip)
  have H0 := H
  clear H
  go_loopw [2, 3] (fun vi vj wr => RevLoop W l g L r vi vj wr) (fun vi _ _ => L.length - (intOf vi).toNat)
  case atStart => exact ⟨0, L, Nat.zero_le _, rfl, by simp, Turned.start L, H0⟩
  case round =>
    obtain ⟨i, M, hi, rfl, rfl, hT, H'⟩ := hrel.out
    clear H0 hrel
    have H := H'
    clear H'
    by_cases hlt : i + i + 1 < L.length
    · obtain ⟨j, hj⟩ : ∃ j : Nat, j + i + 1 = L.length := ⟨L.length - 1 - i, by omega⟩
      have ej : L.length - 1 - i = j := by omega
      have h0 : i < L.length := by omega
      have h1 : j < L.length := by omega
      have hx : L[i]? = some L[i] := List.getElem?_eq_getElem h0
      have hy : L[j]? = some L[j] := List.getElem?_eq_getElem h1
      generalize L[i] = x at *
      generalize L[j] = y at *
      have HX := Lib.hid ((hT.low hlt).trans hx)
      have HY := Lib.hid (show M[j]? = some y by have := hT.high hlt; rw [ej] at this; exact this.trans hy)
      have HS := Lib.hid (show Turned L ((M.set i y).set j x) (i + 1) by have := hT.step hlt hx (by rw [ej]; exact hy); rw [ej] at this; exact this)
      have HM := Lib.hid hT.1
      clear hT hx hy ej
      have hj2 : (L.length : Int) - 1 - (i : Int) = (j : Int) := by omega
      rw [hj2]
      clear hj2
      have hn2 : j < L.length := h1
      go_wp2_with (go_skip)
      refine wp_region_E [13, 15] [0, 1, 2, 3, 4, 5, 6, 7, 8, 9, 10, 11, 12, 13, 14, 15] (fun _ => True) H (by kernel_rfl) (by kernel_rfl) ?_
      iterate 7 (apply wpE_step; (· rfl); (· rfl); (· rfl); (· exact Nat.le_of_ble_eq_true rfl); (· intro l0 _ w0 H0; (first | go_big_quiet_skip | go_big_quiet_step (fail)); (refine wpQuiet_nil ?_); (simp only [Array.getD_eq_getD_getElem?, List.getElem?_toArray, List.getElem?_cons_succ, List.getElem?_cons_zero, Option.getD_some]; rfl)); (simp only [Act.put, List.setIfInBounds_toArray, List.set_cons_zero, List.set_cons_succ]))
      (apply wpE_early; (· rfl); (· rfl); (· kernel_rfl); (· rfl); (· exact Nat.le_of_ble_eq_true rfl); (· intro w0 H0; (first | (with_reducible apply wpQ_loadCH); (· exact cell_party); (· rfl); (· rfl); (· exact List.mem_cons_self); (· exact pc_get HY.out); (simp only [Act.put, List.setIfInBounds_toArray, List.set_cons_zero, List.set_cons_succ])); (refine wpQuiet_nil ?_); (simp only [Array.getD_eq_getD_getElem?, List.getElem?_toArray, List.getElem?_cons_succ, List.getElem?_cons_zero, Option.getD_some]; rfl)); (simp only [Act.put, List.setIfInBounds_toArray, List.set_cons_zero, List.set_cons_succ]))
      iterate 3 (apply wpE_step; (· rfl); (· rfl); (· rfl); (· exact Nat.le_of_ble_eq_true rfl); (· intro l0 _ w0 H0; (first | go_big_quiet_skip | go_big_quiet_step (fail)); (refine wpQuiet_nil ?_); (simp only [Array.getD_eq_getD_getElem?, List.getElem?_toArray, List.getElem?_cons_succ, List.getElem?_cons_zero, Option.getD_some]; rfl)); (simp only [Act.put, List.setIfInBounds_toArray, List.set_cons_zero, List.set_cons_succ]))
      (apply wpE_early; (· rfl); (· rfl); (· kernel_rfl); (· rfl); (· exact Nat.le_of_ble_eq_true rfl); (· intro w0 H0; (first | (with_reducible apply wpQ_loadCH); (· exact cell_party); (· rfl); (· rfl); (· exact List.mem_cons_self); (· exact pc_get HX.out); (simp only [Act.put, List.setIfInBounds_toArray, List.set_cons_zero, List.set_cons_succ])); (refine wpQuiet_nil ?_); (simp only [Array.getD_eq_getD_getElem?, List.getElem?_toArray, List.getElem?_cons_succ, List.getElem?_cons_zero, Option.getD_some]; rfl)); (simp only [Act.put, List.setIfInBounds_toArray, List.set_cons_zero, List.set_cons_succ]))
      (apply wpE_step; (· rfl); (· rfl); (· rfl); (· exact Nat.le_of_ble_eq_true rfl); (· intro l0 _ w0 H0; (first | go_big_quiet_skip | go_big_quiet_step (fail)); (refine wpQuiet_nil ?_); (simp only [Array.getD_eq_getD_getElem?, List.getElem?_toArray, List.getElem?_cons_succ, List.getElem?_cons_zero, Option.getD_some]; rfl)); (simp only [Act.put, List.setIfInBounds_toArray, List.set_cons_zero, List.set_cons_succ]))
      ((with_reducible apply wpE_storeI); (· exact cell_party); (· rfl); (· rfl); (· rfl); (· rfl); (· rfl); (· (repeat (first | (with_reducible exact List.mem_cons_self) | with_reducible apply List.mem_cons_of_mem))); (· (rw [pc_sz, HM.out]; omega)); (· exact pc_set _ (by rw [HM.out]; exact h0)); (· (repeat (first | (with_reducible exact Repl.here) | with_reducible apply Repl.there))); (simp only [Act.put, List.setIfInBounds_toArray, List.set_cons_zero, List.set_cons_succ]))
      (apply wpE_step; (· rfl); (· rfl); (· rfl); (· exact Nat.le_of_ble_eq_true rfl); (· intro l0 _ w0 H0; (first | go_big_quiet_skip | go_big_quiet_step (fail)); (refine wpQuiet_nil ?_); (simp only [Array.getD_eq_getD_getElem?, List.getElem?_toArray, List.getElem?_cons_succ, List.getElem?_cons_zero, Option.getD_some]; rfl)); (simp only [Act.put, List.setIfInBounds_toArray, List.set_cons_zero, List.set_cons_succ]))
      ((with_reducible apply wpE_storeI); (· exact cell_party); (· rfl); (· rfl); (· rfl); (· rfl); (· rfl); (· (repeat (first | (with_reducible exact List.mem_cons_self) | with_reducible apply List.mem_cons_of_mem))); (· (rw [pc_sz, List.length_set, HM.out]; omega)); (· exact pc_set _ (by rw [List.length_set, HM.out]; exact h1)); (· (repeat (first | (with_reducible exact Repl.here) | with_reducible apply Repl.there))); (simp only [Act.put, List.setIfInBounds_toArray, List.set_cons_zero, List.set_cons_succ]))
      (refine wpE_nil ?_; clear H; intro _ H)
      go_wp2_with (go_skip)
      refine ⟨⟨i + 1, _, by omega, by go_num, ?_, HS.out, H⟩, ?measure⟩
      · congr 1; omega
      case measure => simp [intOf]; omega
    · have HS := Lib.hid (hT.done (by omega))
      clear hT
      go_wp2_with (go_skip)
      rw [← HS.out]
      exact ⟨rfl, .tuple #[], by simp [results, show Try.f138.results = #[] from rfl], rfl, H⟩
end
end Go.Proofs.Ytgobnamhdkbbeaa

/- paths.may. -/
namespace Go.Proofs.Ytgobnamhdkbbeaa
open Go.RowKit
set_option linter.unusedSimpArgs false
set_option linter.unusedVariables false
set_option maxRecDepth 100000
set_option maxHeartbeats 2000000
theorem may6 (a : Nat) (h : a ≤ 255) : Ans 136 #[.int .u8 (a : Int)] (.bool (mayP a)) := by
  intro w
  unfold mayP
  by_cases h1 : 1 ≤ a
  · by_cases h2 : a ≤ 16
    all_goals
      go_enter Try.func136, Try.ntmps136
      go_wp2_with fail
      go_ret
      exact ⟨by simp [h1, h2]; omega, (by repeat (first | exact Ext.refl _ | refine Ext.alloc ?_ _ | refine Ext.ext ?_ _ | refine Ext.drew ?_))⟩
  · go_enter Try.func136, Try.ntmps136
    go_wp2_with fail
    go_ret
    exact ⟨by simp [h1], (by repeat (first | exact Ext.refl _ | refine Ext.alloc ?_ _ | refine Ext.ext ?_ _ | refine Ext.drew ?_))⟩
end Go.Proofs.Ytgobnamhdkbbeaa

/- clear of a slice; []T{}. -/
namespace Go.Proofs.Ytgobnamhdkbbeaa
open Go.RowKit
set_option linter.unusedSimpArgs false
set_option linter.unusedVariables false
section
variable {ops : Array Oper} {rest : List Oper} {o : Oper} {a : Act} {w W : World} {l : List Thing} {Q : Exit → Act → World → Prop}
theorem wpl_clearC {t e size bytes : Nat} {z : Value} (T : SlTy Try.prog t e size bytes z) (hz1 : ∀ u ∈ z.cells, u.oneCell' = true) (hgd : o.guard = none) {x : Operand}
    (ho : o.op = .call { callee := .builtin .clear, args := #[x], argTypes := #[t] }) {g off n c e' : Nat} (hx : a.eval x = .slice (some ⟨g, off, none⟩) n c)
    {cur : Array Value} (H : Heap W (Cel g cur e' :: l) w) (hfit : off + n * size ≤ cur.size)
    (h : ∀ c1 w', c1.size = cur.size → c1.toList.take off = cur.toList.take off → Heap W (Cel g c1 e' :: l) w' → wpList Try.prog ops Q rest (a.put o.dst (.tuple #[])) w') : wpList Try.prog ops Q (o :: rest) a w := by
  refine wpList_plain hgd fun K hK => ?_
  have hg := H.blk List.mem_cons_self
  obtain ⟨i, hi, hz, hsi, hbi⟩ := T.inf
  have r2 : ∀ w, (zeroValue e).run Try.prog w = .ok z w := fun w => by simp [zeroValue, typeInfo, hi, hz, go_sem]
  rcases n with _ | n
  · have hr : (Builtin.clear_ #[t] o.type #[.slice (some ⟨g, off, none⟩) 0 c]).run Try.prog w = .ok (.tuple #[]) w := by
      simp [Builtin.clear_, run_underlying T.und]
    unfold Oper.wp execOp
    simp only [ho, resolve, invoke, builtin, Sem.run_bind, Sem.run_pure, Result.andThen_ok, List.map_toArray, List.map_cons, List.map_nil, hx, hr]
    exact hK _ _ (h _ _ rfl rfl H)
  · have hs : (Builtin.zeroCells z.cells (n + 1)).size = (n + 1) * size := by simp [Builtin.zeroCells, T.zc]
    have h1 : ∀ v ∈ (Builtin.zeroCells z.cells (n + 1)).toList, v.oneCell' = true := by
      intro v hv
      simp only [Builtin.zeroCells, Array.toList_map, Array.toList_range, List.mem_map, List.mem_range] at hv
      obtain ⟨j, hj, rfl⟩ := hv
      have hp : 0 < z.cells.size := by rw [T.zc]; exact T.pos
      have hlt : j % z.cells.size < z.cells.size := Nat.mod_lt _ hp
      rw [getElem!_pos z.cells _ hlt]
      exact hz1 _ (Array.getElem_mem hlt)
    have hst := run_storeCells_at Try.prog g off e' (Builtin.zeroCells z.cells (n + 1)).toList 0 cur w hg (by simp [hs]; exact hfit) h1
    simp only [Nat.add_zero] at hst
    have hr : (Builtin.clear_ #[t] o.type #[.slice (some ⟨g, off, none⟩) (n + 1) c]).run Try.prog w = .ok (.tuple #[]) (w.setRow g (cur.toList.take off ++ (Builtin.zeroCells z.cells (n + 1)).toList ++ cur.toList.drop (off + (Builtin.zeroCells z.cells (n + 1)).toList.length)).toArray) := by
      simp only [Builtin.clear_]
      simp [run_underlying T.und, r2, hst]
    unfold Oper.wp execOp
    simp only [ho, resolve, invoke, builtin, Sem.run_bind, Sem.run_pure, Result.andThen_ok, List.map_toArray, List.map_cons, List.map_nil, hx, hr]
    refine hK _ _ (h _ _ ?_ ?_ (H.head ⟨rfl, rfl, rfl, by simp, fun k _ hk => setRow_other w g k _ (fun e => hk (by show some k = some g; rw [e]))⟩ (setRow_heap w g cur _ e' _ hg) (.inl rfl)))
    · simp [hs]; omega
    · have hA : (cur.toList.take off).length = off := by simp; omega
      simp only [List.append_assoc]
      rw [List.take_append_of_le_length (by rw [hA]; exact Nat.le_refl _), List.take_of_length_le (by rw [hA]; exact Nat.le_refl _)]
theorem wpl_bs0 {dst : Option Tmp} {ty : TypeId} {pos : String} {after : Array Edge} {guard : Option (Nat × Bool)} {t e : Nat} (hw : Region.wanted ⟨dst, .buildSlice t 0 #[], ty, pos, after, guard⟩ (yielded ops a.tmps) = true)
    {size bytes : Nat} {z : Value} (T : SlTy Try.prog t e size bytes z) (H : Heap W l w)
    (h : ∀ p w', Heap W (Cel p #[] e :: l) w' → wpList Try.prog ops Q rest (a.put dst (.slice (some ⟨p, 0, none⟩) 0 0)) w') : wpList Try.prog ops Q (⟨dst, .buildSlice t 0 #[], ty, pos, after, guard⟩ :: rest) a w := by
  obtain ⟨i, hi, hz, hsi, hbi⟩ := T.inf
  have r1 : ∀ w, (sizeOf e).run Try.prog w = .ok i.size w := fun w => by simp [sizeOf, typeInfo, hi, go_sem]
  have r2 : ∀ w, (zeroValue e).run Try.prog w = .ok z w := fun w => by simp [zeroValue, typeInfo, hi, hz, go_sem]
  refine BigFrame.wpList_want hw fun K hK => ?_
  have hrun : (Instr.buildSlice t 0 (#[].map fun ((i, x) : Nat × Operand) => (i, a.eval x))).run Try.prog w = .ok (.slice (some ⟨w.heap.size, 0, none⟩) 0 0) (w.alloc (.cells #[] e)) := by
    unfold Instr.buildSlice
    rw [Sem.run_bind, run_underlying T.und]
    simp only [Result.andThen_ok]
    rw [Sem.run_bind, r1]
    simp only [Result.andThen_ok]
    simp [Sem.run_bind, r2, newRow, go_sem, Instr.fill]
  unfold Oper.wp execOp
  simp only [Sem.run_bind, hrun, Result.andThen_ok, Sem.run_pure]
  exact hK _ _ (h _ _ (H.alloc _ _))
end
end Go.Proofs.Ytgobnamhdkbbeaa

/- paths.Round's list: slices.Clone, IndexFunc, DeleteFunc of edges. -/
namespace Go.Proofs.Ytgobnamhdkbbeaa
open Go.RowKit
set_option linter.unusedSimpArgs false
set_option linter.unusedVariables false
theorem Heap.celRow {W w : World} {l : List Thing} {g e size n m : Nat} {c : Array Value} (H : Heap W (Cel g c e :: l) w) (hc : c.size = m * size) (hn : n ≤ m) (hm : m ≤ maxLen) : Heap W (RowT e size (.slice (some ⟨g, 0, none⟩) n m) n (c.toList.take (n * size)) :: l) w := by
  have h2 : n * size ≤ m * size := Nat.mul_le_mul_right _ hn
  exact H.head (World.grownBy.refl _ _) ⟨by simp; omega, .inr ⟨g, m, c, rfl, Nat.zero_le _, H.blk List.mem_cons_self, hn, hm, hc, rfl⟩⟩ (.inl rfl)
/-- A row that is not empty, as its block. -/
theorem Heap.rowCel {W w : World} {l : List Thing} {e size n : Nat} {v : Value} {xs : List Value} (H : Heap W (RowT e size v n xs :: l) w) (hn : 0 < n) :
    ∃ g m c, v = .slice (some ⟨g, 0, none⟩) n m ∧ n ≤ m ∧ m ≤ maxLen ∧ c.size = m * size ∧ c.toList.take (n * size) = xs ∧ Heap W (Cel g c e :: l) w := by
  obtain ⟨h1, ⟨_, h2⟩ | ⟨g, m, c, hv, _, hg, hnm, hm, hs, ht⟩⟩ := H.ok _ List.mem_cons_self
  · omega
  · refine ⟨g, m, c, hv, hnm, hm, hs, ht, H.head (World.grownBy.refl _ _) hg (.inl ?_)⟩
    subst hv
    rfl
/-- A block that begins with these edges. -/
def ec (F : List Edg) (r : List Value) : Array Value := (edgL F ++ r).toArray
theorem ec_sz (F : List Edg) (r : List Value) : (ec F r).size = F.length * 3 + r.length := by simp [ec, edgL_len]
theorem ec_of {c : Array Value} {F : List Edg} {n : Nat} (h : c.toList.take n = edgL F) : ∃ r, c = ec F r := by
  refine ⟨c.toList.drop n, ?_⟩
  unfold ec
  rw [← h, List.take_append_drop]
theorem edgL_take (F : List Edg) (i : Nat) (h : i ≤ F.length) : (edgL F).take (i * 3) = edgL (F.take i) := by
  have e : edgL F = edgL (F.take i) ++ edgL (F.drop i) := by rw [← edgL_app, List.take_append_drop]
  have hl : (edgL (F.take i)).length = i * 3 := by rw [edgL_len, List.length_take, Nat.min_eq_left h]
  rw [e, ← hl]
  exact List.take_left
theorem edgL_drop (F : List Edg) (i : Nat) (h : i ≤ F.length) : (edgL F).drop (i * 3) = edgL (F.drop i) := by
  have e : edgL F = edgL (F.take i) ++ edgL (F.drop i) := by rw [← edgL_app, List.take_append_drop]
  have hl : (edgL (F.take i)).length = i * 3 := by rw [edgL_len, List.length_take, Nat.min_eq_left h]
  rw [e, ← hl]
  exact List.drop_left
theorem edgL_set (F : List Edg) (i : Nat) (x : Edg) (h : i < F.length) : edgL (F.set i x) = (edgL F).take (i * 3) ++ (edgV x ++ (edgL F).drop (i * 3 + 3)) := by
  rw [List.set_eq_take_append_cons_drop, if_pos h, edgL_app, edgL_take F i (by omega), show i * 3 + 3 = (i + 1) * 3 by omega, edgL_drop F (i + 1) (by omega)]
  rfl
theorem ec_part {F : List Edg} {r : List Value} {k : Nat} (h : k < F.length) : (ec F r).extract (k * 3) (k * 3 + 3) = edg F[k].f F[k].t F[k].c := by
  unfold ec
  have h1 := edgL_at F k h
  have h2 : k * 3 + 3 ≤ (edgL F).length := by rw [edgL_len]; omega
  apply Array.ext'
  rw [List.extract_toArray, List.toList_toArray, List.extract_eq_take_drop]
  rw [show k * 3 + 3 - k * 3 = 3 by omega, List.drop_append_of_le_length (by omega), List.take_append_of_le_length (by simp; omega), h1]
  rfl
theorem ec_put {F : List Edg} {r : List Value} {k : Nat} (x : Edg) (h : k < F.length) : splice (ec F r) (k * 3) (edg x.f x.t x.c) = ec (F.set k x) r := by
  unfold ec splice
  rw [edgL_set F k x h]
  have h2 : k * 3 + 3 ≤ (edgL F).length := by rw [edgL_len]; omega
  have h3 : (edg x.f x.t x.c).size = 3 := rfl
  have h4 : (edg x.f x.t x.c).toList = edgV x := rfl
  rw [h3, h4, List.toList_toArray, List.take_append_of_le_length (by omega), List.drop_append_of_le_length (by omega)]
  simp only [List.append_assoc]
def keepE (x : Edg) : Bool := mayP x.f && mayP x.t
theorem slE : SlTy Try.prog 167 194 3 3 (.agg #[.int .u8 0, .int .u8 0, .int .i8 0]) := slTy_mk Try.underlying167 (by kernel_rfl) rfl (by decide)
theorem edgL_ones (F : List Edg) : OneCells (edgL F) := by
  intro u hu
  obtain ⟨x, _, hx⟩ := List.mem_flatMap.1 hu
  simp [edgV] at hx
  rcases hx with rfl | rfl | rfl <;> rfl
theorem wpl_append00 {ops : Array Oper} {rest : List Oper} {o : Oper} {a : Act} {w : World} {Q : Exit → Act → World → Prop} {t e size bytes : Nat} {z : Value} (T : SlTy Try.prog t e size bytes z) (hgd : o.guard = none) {s x : Operand}
    (ho : o.op = .call { callee := .builtin .append, args := #[s, x], argTypes := #[t, t] }) {q : Nat} {b : Addr} {c : Nat} (hs : a.eval s = .slice (some ⟨q, 0, none⟩) 0 0) (hx : a.eval x = .slice (some b) 0 c)
    (h : wpList Try.prog ops Q rest (a.put o.dst (.slice (some ⟨q, 0, none⟩) 0 0)) w) : wpList Try.prog ops Q (o :: rest) a w := by
  obtain ⟨i, hi, hz, hsi, hbi⟩ := T.inf
  have hr : (Builtin.append_ #[t, t] o.type #[.slice (some ⟨q, 0, none⟩) 0 0, .slice (some b) 0 c]).run Try.prog w = .ok (.slice (some ⟨q, 0, none⟩) 0 0) w := by
    simp [Builtin.append_, run_underlying T.und, sizeOf, typeInfo, hi, Builtin.lenOf, Builtin.firstCells, loadCells, loadCellsFrom, storeCells]
  refine wpList_plain hgd fun K hK => ?_
  unfold Oper.wp execOp
  simp only [ho, resolve, invoke, builtin, Sem.run_bind, Sem.run_pure, Result.andThen_ok, List.map_toArray, List.map_cons, List.map_nil, hs, hx, hr]
  exact hK _ _ h
/-- What Clone answers. -/
def ClonePost (W : World) (l : List Thing) (F : List Edg) (e : Ending) (w' : World) : Prop :=
  ∃ a c, e = .returned (.slice a F.length c) ∧ F.length ≤ c ∧ c ≤ maxLen ∧ ((F = [] ∧ Heap W l w') ∨ ∃ g r, a = some ⟨g, 0, none⟩ ∧ (ec F r).size = c * 3 ∧ Heap W (Cel g (ec F r) 194 :: l) w')
section
variable {W w : World} {l : List Thing}
set_option maxRecDepth 100000
set_option maxHeartbeats 2000000
theorem del_H (x : Edg) (hx : EdgOk x) : AnsH W l 135 #[.agg (edg x.f x.t x.c)] (.bool (!keepE x)) := by
  intro w H
  obtain ⟨a, b, n⟩ := x
  obtain ⟨h1, h2, h3, h4⟩ := hx
  simp only at h1 h2 h3 h4
  have m1 := may6 a h1
  have m2 := may6 b h2
  unfold keepE
  cases e1 : mayP a
  · rw [e1] at m1
    clear e1
    go_enter Try.func135, Try.ntmps135
    go_wp2_with (first
      | go_skip
      | ((with_reducible show wpList _ _ _ (_ :: _) _ _); (with_reducible apply wpl_boxRH); (· rfl); (· rfl); (· exact H); (clear H; intro p _ H); (simp only [Act.put, List.setIfInBounds_toArray, List.set_cons_zero, List.set_cons_succ]))
      | ((with_reducible show wpList _ _ _ (_ :: _) _ _); (with_reducible apply wpl_loadCH); (· exact cell_party); (· rfl); (· rfl); (· exact H); (· (repeat (first | (with_reducible exact List.mem_cons_self) | with_reducible apply List.mem_cons_of_mem))); (· (with_reducible first | exact edg_g0 .. | exact edg_g1 .. | exact edg_g2 ..)); (simp only [Act.put, List.setIfInBounds_toArray, List.set_cons_zero, List.set_cons_succ]))
      | ((with_reducible refine Ans.callH (by assumption) H ?_); clear H; intro _ H))
    go_ret
    exact ⟨rfl, H.tail⟩
  · rw [e1] at m1
    clear e1
    cases e2 : mayP b
    · rw [e2] at m2
      clear e2
      go_enter Try.func135, Try.ntmps135
      go_wp2_with (first
        | go_skip
        | ((with_reducible show wpList _ _ _ (_ :: _) _ _); (with_reducible apply wpl_boxRH); (· rfl); (· rfl); (· exact H); (clear H; intro p _ H); (simp only [Act.put, List.setIfInBounds_toArray, List.set_cons_zero, List.set_cons_succ]))
        | ((with_reducible show wpList _ _ _ (_ :: _) _ _); (with_reducible apply wpl_loadCH); (· exact cell_party); (· rfl); (· rfl); (· exact H); (· (repeat (first | (with_reducible exact List.mem_cons_self) | with_reducible apply List.mem_cons_of_mem))); (· (with_reducible first | exact edg_g0 .. | exact edg_g1 .. | exact edg_g2 ..)); (simp only [Act.put, List.setIfInBounds_toArray, List.set_cons_zero, List.set_cons_succ]))
        | ((with_reducible refine Ans.callH (by assumption) H ?_); clear H; intro _ H))
      go_ret
      exact ⟨rfl, H.tail⟩
    · rw [e2] at m2
      clear e2
      go_enter Try.func135, Try.ntmps135
      go_wp2_with (first
        | go_skip
        | ((with_reducible show wpList _ _ _ (_ :: _) _ _); (with_reducible apply wpl_boxRH); (· rfl); (· rfl); (· exact H); (clear H; intro p _ H); (simp only [Act.put, List.setIfInBounds_toArray, List.set_cons_zero, List.set_cons_succ]))
        | ((with_reducible show wpList _ _ _ (_ :: _) _ _); (with_reducible apply wpl_loadCH); (· exact cell_party); (· rfl); (· rfl); (· exact H); (· (repeat (first | (with_reducible exact List.mem_cons_self) | with_reducible apply List.mem_cons_of_mem))); (· (with_reducible first | exact edg_g0 .. | exact edg_g1 .. | exact edg_g2 ..)); (simp only [Act.put, List.setIfInBounds_toArray, List.set_cons_zero, List.set_cons_succ]))
        | ((with_reducible refine Ans.callH (by assumption) H ?_); clear H; intro _ H))
      go_ret
      exact ⟨rfl, H.tail⟩
theorem clone_H (ea : Option Addr) (en ec0 : Nat) (F : List Edg) (hl : F.length = en) (hn : en ≤ 1000000) (R : ∀ w', Heap W l w' → Rd w' ea (edgL F)) (H : Heap W l w) :
    Calls Try.prog 134 #[.slice ea en ec0] w (ClonePost W l F) := by
  have HL := Lib.hid hl
  have HR := Lib.hid R
  clear hl R
  cases ea with
  | none =>
    have hz : en = 0 := by
      apply Classical.byContradiction
      intro hne
      obtain ⟨b, o, he, _⟩ := HR.out w H 0 (by rw [edgL_len, HL.out]; omega)
      cases he
    subst hz
    have hF : F = [] := List.eq_nil_of_length_eq_zero HL.out
    have hnil : ∀ V, (binOp .eql 167 (.slice none 0 ec0) (.slice none 0 0)).run Try.prog V = .ok (.bool true) V := fun V => Lib.run_eql_slice_nil V _ _ none 0 ec0 0 0 Try.underlying167
    go_enter Try.func134, Try.ntmps134
    go_wp2_with (go_skip)
    go_ret
    subst hF
    exact ⟨none, 0, rfl, Nat.le_refl _, by unfold maxLen; omega, .inl ⟨rfl, H⟩⟩
  | some a0 =>
    obtain ⟨b, o, sp⟩ := a0
    have hsp : F = [] ∨ sp = none := by
      rcases Nat.eq_zero_or_pos F.length with h | h
      · exact .inl (List.eq_nil_of_length_eq_zero h)
      · obtain ⟨b', o', he, _⟩ := HR.out w H 0 (by rw [edgL_len]; omega)
        cases he
        exact .inr rfl
    have hnil : ∀ V, (binOp .eql 167 (.slice (some ⟨b, o, sp⟩) en ec0) (.slice none 0 0)).run Try.prog V = .ok (.bool false) V := fun V => Lib.run_eql_slice_nil V _ _ (some ⟨b, o, sp⟩) en ec0 0 0 Try.underlying167
    rcases Nat.eq_zero_or_pos en with h0 | h0
    · subst h0
      have hF : F = [] := List.eq_nil_of_length_eq_zero HL.out
      go_enter Try.func134, Try.ntmps134
      go_wp2_with (first
        | go_skip
        | ((with_reducible show wpList _ _ _ (_ :: _) _ _); (with_reducible apply wpl_bs0); (· rfl); (· exact slE); (· exact H); (clear H; intro pq _ H); (simp only [Act.put, List.setIfInBounds_toArray, List.set_cons_zero, List.set_cons_succ]))
        | ((with_reducible show wpList _ _ _ (_ :: _) _ _); (with_reducible apply wpl_append00 slE); (· rfl); (· rfl); (· rfl); (· rfl); (simp only [Act.put, List.setIfInBounds_toArray, List.set_cons_zero, List.set_cons_succ])))
      go_ret
      subst hF
      exact ⟨_, 0, rfl, Nat.le_refl _, by unfold maxLen; omega, .inl ⟨rfl, H.tail⟩⟩
    · obtain rfl : sp = none := by
        rcases hsp with h | h
        · subst h; have := HL.out; simp at this; omega
        · exact h
      have h1 : 0 + en ≤ maxLen := by unfold maxLen; omega
      have h2 : (0 + en) * 3 ≤ 140737488355328 := by omega
      have h3 : (edgL F).length = en * 3 := by rw [edgL_len, HL.out]
      go_enter Try.func134, Try.ntmps134
      go_wp2_with (first
        | go_skip
        | ((with_reducible show wpList _ _ _ (_ :: _) _ _); (with_reducible apply wpl_bs0); (· rfl); (· exact slE); (· exact H); (clear H; intro pq _ H); (simp only [Act.put, List.setIfInBounds_toArray, List.set_cons_zero, List.set_cons_succ]))
        | ((with_reducible show wpList _ _ _ (_ :: _) _ _); (with_reducible apply wpl_appendH slE); (· rfl); (· rfl); (· rfl); (· rfl); (· exact H.celRow (n := 0) (m := 0) rfl (Nat.le_refl _) (Nat.zero_le _)); (· exact HR.out _ H.tail); (· exact h3); (· exact edgL_ones F); (· exact h1); (· exact h2); (clear H; intro v2 _ H); (simp only [Act.put, List.setIfInBounds_toArray, List.set_cons_zero, List.set_cons_succ])))
      go_ret
      obtain ⟨g, m, c, hv, hm1, hm2, hcs, hct, Hc⟩ := H.rowCel (by omega)
      have hct2 : c.toList.take (en * 3) = edgL F := by simpa using hct
      obtain ⟨r, rfl⟩ := ec_of hct2
      refine ⟨some ⟨g, 0, none⟩, m, ?_, by rw [HL.out]; omega, hm2, .inr ⟨g, r, rfl, hcs, Hc⟩⟩
      rw [HL.out, hv, Nat.zero_add]
      rfl
/-- Where the first one is that shall go. -/
def firstDel : List Edg → Nat
  | [] => 0
  | x :: F => if keepE x then firstDel F + 1 else 0
theorem firstDel_le : ∀ F : List Edg, firstDel F ≤ F.length
  | [] => Nat.le_refl _
  | x :: F => by have := firstDel_le F; unfold firstDel; split <;> simp <;> omega
theorem firstDel_keep : ∀ (F : List Edg) (k : Nat) (h : k < F.length), k < firstDel F → keepE F[k] = true
  | [], _, h, _ => by simp at h
  | x :: F, 0, h, hk => by
    unfold firstDel at hk
    by_cases e : keepE x = true
    · exact e
    · rw [if_neg e] at hk; omega
  | x :: F, k + 1, h, hk => by
    unfold firstDel at hk
    by_cases e : keepE x = true
    · rw [if_pos e] at hk
      exact firstDel_keep F k (by simpa using h) (by omega)
    · rw [if_neg e] at hk; omega
theorem firstDel_at : ∀ (F : List Edg) (h : firstDel F < F.length), keepE F[firstDel F] = false
  | [], h => by simp at h
  | x :: F, h => by
    by_cases e : keepE x = true
    · have h2 : firstDel (x :: F) = firstDel F + 1 := by rw [firstDel, if_pos e]
      have h3 : firstDel F < F.length := by rw [h2] at h; simpa using h
      have := firstDel_at F h3
      simp only [h2, List.getElem_cons_succ]
      exact this
    · have h2 : firstDel (x :: F) = 0 := by rw [firstDel, if_neg e]
      simp only [h2, List.getElem_cons_zero]
      simpa using e
/-- Its index; -1, if there is none. -/
def delAt (F : List Edg) : Int := if firstDel F < F.length then (firstDel F : Int) else -1
theorem delAt_yes {F : List Edg} (h : firstDel F < F.length) : delAt F = (firstDel F : Int) := if_pos h
theorem delAt_no {F : List Edg} (h : ¬ firstDel F < F.length) : delAt F = -1 := if_neg h
theorem index_E (g n c : Nat) (F : List Edg) (r : List Value) (hl : F.length = n) (hn : n ≤ 1000000) (hF : ∀ x ∈ F, EdgOk x) (m : Cel g (ec F r) 194 ∈ l) :
    AnsH W l 159 #[.slice (some ⟨g, 0, none⟩) n c, .func (.func 135) #[] #[]] (.int .i64 (delAt F)) := by
  intro w H
  have HL := Lib.hid hl
  have HF := Lib.hid hF
  clear hl hF
  go_enter Try.func159, Try.ntmps159
  go_wp2_with (go_skip)
  have H0 := H
  clear H
  go_loopw [8] (fun i wr => ∃ k : Nat, k ≤ firstDel F ∧ k ≤ n ∧ i = .int .i64 k ∧ Heap W l wr) (fun i _ => n - (intOf i).toNat)
  case atStart => exact ⟨0, Nat.zero_le _, Nat.zero_le _, rfl, H0⟩
  case round =>
    obtain ⟨k, hk, hkn, rfl, H'⟩ := hrel
    clear H0
    have H := H'
    clear H'
    by_cases hlt : k < n
    · have hkF : k < F.length := by rw [HL.out]; exact hlt
      have hpart := ec_part (r := r) hkF
      have hok := HF.out F[k] (List.getElem_mem hkF)
      have hsz : k * 3 + 3 ≤ (ec F r).size := by rw [ec_sz]; omega
      by_cases he : k = firstDel F
      · have hd : keepE F[k] = false := by
          have := firstDel_at F (by omega)
          subst he
          exact this
        have D := del_H (W := W) (l := l) F[k] hok
        generalize F[k] = x at *
        rw [hd] at D
        have HE := Lib.hid he
        clear he hd hok hkF
        go_wp2_with (first
          | go_skip
          | ((with_reducible show wpList _ _ _ (_ :: _) _ _); (with_reducible apply wpl_loadRH row_edg); (· rfl); (· rfl); (· exact H); (· exact m); (· exact hsz); (· exact hpart); (simp only [Act.put, List.setIfInBounds_toArray, List.set_cons_zero, List.set_cons_succ]))
          | ((with_reducible refine AnsH.call (by assumption) H ?_); clear H; intro _ H))
        go_ret
        rw [delAt_yes (by rw [← HE.out, HL.out]; exact hlt), ← HE.out]
        exact ⟨rfl, H⟩
      · have hd : keepE F[k] = true := firstDel_keep F k hkF (by omega)
        have D := del_H (W := W) (l := l) F[k] hok
        generalize F[k] = x at *
        rw [hd] at D
        have HE := Lib.hid he
        clear he hd hok hkF
        go_wp2_with (first
          | go_skip
          | ((with_reducible show wpList _ _ _ (_ :: _) _ _); (with_reducible apply wpl_loadRH row_edg); (· rfl); (· rfl); (· exact H); (· exact m); (· exact hsz); (· exact hpart); (simp only [Act.put, List.setIfInBounds_toArray, List.set_cons_zero, List.set_cons_succ]))
          | ((with_reducible refine AnsH.call (by assumption) H ?_); clear H; intro _ H))
        go_roundw
        case rel => exact ⟨k + 1, by have := HE.out; omega, by omega, by go_num, H⟩
        case measure => simp [intOf]; omega
    · have hnd : ¬ firstDel F < n := by omega
      have HN := Lib.hid hnd
      clear hnd
      go_wp2_with (go_skip)
      go_ret
      rw [delAt_no (by rw [HL.out]; exact HN.out)]
      exact ⟨rfl, H⟩
end
end Go.Proofs.Ytgobnamhdkbbeaa

/- slices.DeleteFunc of edges. -/
namespace Go.Proofs.Ytgobnamhdkbbeaa
open Go.RowKit
set_option linter.unusedSimpArgs false
set_option linter.unusedVariables false
theorem keep_take : ∀ (F : List Edg), (F.take (firstDel F)).filter keepE = F.take (firstDel F)
  | [] => rfl
  | x :: F => by
    by_cases e : keepE x = true
    · rw [firstDel, if_pos e, List.take_succ_cons, List.filter_cons_of_pos e, keep_take F]
    · rw [firstDel, if_neg e]; rfl
theorem take_filter_yes {F : List Edg} {k : Nat} (h : k < F.length) (e : keepE F[k] = true) : (F.take (k + 1)).filter keepE = (F.take k).filter keepE ++ [F[k]] := by
  rw [List.take_add_one, List.getElem?_eq_getElem h, Option.toList_some, List.filter_append, List.filter_cons_of_pos e]
  rfl
theorem take_filter_no {F : List Edg} {k : Nat} (h : k < F.length) (e : keepE F[k] = false) : (F.take (k + 1)).filter keepE = (F.take k).filter keepE := by
  rw [List.take_add_one, List.getElem?_eq_getElem h, Option.toList_some, List.filter_append, List.filter_cons_of_neg (by rw [e]; exact Bool.false_ne_true)]
  simp
structure DelInv (F G : List Edg) (k j : Nat) : Prop where
  len : G.length = F.length
  lt : j < k
  take : G.take j = (F.take k).filter keepE
  drop : G.drop k = F.drop k
theorem DelInv.start {F : List Edg} (h : firstDel F < F.length) : DelInv F F (firstDel F + 1) (firstDel F) :=
  ⟨rfl, Nat.lt_succ_self _, by rw [take_filter_no h (firstDel_at F h), keep_take], rfl⟩
theorem DelInv.at {F G : List Edg} {k j : Nat} (h : DelInv F G k j) (hk : k < F.length) : G[k]'(by rw [h.len]; exact hk) = F[k] := by
  have h1 : (G.drop k)[0]? = (F.drop k)[0]? := by rw [h.drop]
  rw [List.getElem?_drop, List.getElem?_drop, Nat.add_zero, List.getElem?_eq_getElem (by rw [h.len]; exact hk), List.getElem?_eq_getElem hk] at h1
  exact Option.some.inj h1
theorem DelInv.no {F G : List Edg} {k j : Nat} (h : DelInv F G k j) (hk : k < F.length) (e : keepE F[k] = false) : DelInv F G (k + 1) j :=
  ⟨h.len, Nat.lt_succ_of_lt h.lt, by rw [take_filter_no hk e, h.take], by rw [← List.drop_drop, h.drop, List.drop_drop]⟩
theorem DelInv.yes {F G : List Edg} {k j : Nat} (h : DelInv F G k j) (hk : k < F.length) (e : keepE F[k] = true) : DelInv F (G.set j F[k]) (k + 1) (j + 1) := by
  have hj : j < G.length := by have := h.lt; rw [h.len]; omega
  refine ⟨by rw [List.length_set, h.len], Nat.succ_lt_succ h.lt, ?_, ?_⟩
  · rw [take_filter_yes hk e, ← h.take, List.take_add_one, List.getElem?_set_self hj, Option.toList_some, List.take_set_of_le (Nat.le_refl _)]
  · rw [List.drop_set_of_lt (by have := h.lt; omega), ← List.drop_drop, h.drop, List.drop_drop]
theorem DelInv.done {F G : List Edg} {j : Nat} (h : DelInv F G F.length j) : G.take j = F.filter keepE := by rw [h.take, List.take_length]
theorem filter_all {F : List Edg} (h : ¬ firstDel F < F.length) : F.filter keepE = F := by
  have h2 : firstDel F = F.length := by have := firstDel_le F; omega
  have := keep_take F
  rw [h2, List.take_length] at this
  exact this
def DelPost (W : World) (l : List Thing) (F : List Edg) (g c : Nat) (e : Ending) (w' : World) : Prop :=
  ∃ c1, e = .returned (.slice (some ⟨g, 0, none⟩) (F.filter keepE).length c) ∧ c1.toList.take ((F.filter keepE).length * 3) = edgL (F.filter keepE) ∧ Heap W (Cel g c1 194 :: l) w'
structure DelLoop (W : World) (l : List Thing) (F : List Edg) (r : List Value) (g n : Nat) (vj vk : Value) (wr : World) : Prop where
  out : ∃ (k j : Nat) (G : List Edg), k ≤ n ∧ vj = .int .i64 (j : Int) ∧ vk = .int .i64 (k : Int) ∧ DelInv F G k j ∧ Heap W (Cel g (ec G r) 194 :: l) wr
section
variable {W w : World} {l : List Thing}
set_option maxRecDepth 100000
set_option maxHeartbeats 2000000
theorem delete_H (g n c : Nat) (F : List Edg) (r : List Value) (hl : F.length = n) (hn : n ≤ 1000000) (hnc : n ≤ c) (hF : ∀ x ∈ F, EdgOk x) (H : Heap W (Cel g (ec F r) 194 :: l) w) :
    Calls Try.prog 133 #[.slice (some ⟨g, 0, none⟩) n c, .func (.func 135) #[] #[]] w (DelPost W l F g c) := by
  have I := index_E (W := W) (l := Cel g (ec F r) 194 :: l) g n c F r hl hn hF List.mem_cons_self
  by_cases hd : firstDel F < F.length
  · rw [delAt_yes hd] at I
    have hs := DelInv.start hd
    have hj0 : firstDel F < n := by rw [← hl]; exact hd
    have HL := Lib.hid hl
    have HF := Lib.hid hF
    clear hl hF hd
    have hne : ¬ ((firstDel F : Int) = -1) := by omega
    have hne2 : ((firstDel F : Int) == -1) = false := by simp
    have hne3 : decide ((firstDel F : Int) = -1) = false := by simp
    go_enter Try.func133, Try.ntmps133
    go_wp2_with (first | go_skip | ((with_reducible refine AnsH.call (by assumption) H ?_); clear H; intro _ H))
    have H0 := H
    clear H
    go_loopw [5, 6] (fun vj vk wr => DelLoop W l F r g n vj vk wr) (fun _ vk _ => n - (intOf vk).toNat)
    case atStart => exact ⟨_, _, F, by omega, rfl, by go_num, hs, H0⟩
    case round =>
      obtain ⟨k, j, G, hk, rfl, rfl, hI, H'⟩ := hrel.out
      clear H0 hrel hs I hne hne2 hne3
      have H := H'
      clear H'
      have hjk := hI.lt
      by_cases hlt : k < n
      · have hkF : k < F.length := by rw [HL.out]; exact hlt
        have hkG : k < G.length := by rw [hI.len]; exact hkF
        have hjG : j < G.length := by omega
        have hat := hI.at hkF
        have hpart := ec_part (r := r) hkG
        rw [hat] at hpart
        have hok := HF.out F[k] (List.getElem_mem hkF)
        have hsz : k * 3 + 3 ≤ (ec G r).size := by rw [ec_sz]; omega
        have hsj : j * 3 + 3 ≤ (ec G r).size := by rw [ec_sz]; omega
        cases e : keepE F[k]
        · have HI := Lib.hid (hI.no hkF e)
          have D := fun px => del_H (W := W) (l := Cel px (edg F[k].f F[k].t F[k].c) 194 :: Cel g (ec G r) 194 :: l) F[k] hok
          rw [e] at D
          clear hI hat hok e
          generalize F[k] = x at *
          go_wp2_with (first
            | go_skip
            | ((with_reducible show wpList _ _ _ (_ :: _) _ _); (with_reducible apply wpl_loadRH row_edg); (· rfl); (· rfl); (· exact H); (· exact List.mem_cons_self); (· exact hsz); (· exact hpart); (simp only [Act.put, List.setIfInBounds_toArray, List.set_cons_zero, List.set_cons_succ]))
            | ((with_reducible show wpList _ _ _ (_ :: _) _ _); (with_reducible apply wpl_allocRH row_edg); (· rfl); (· exact H); (clear H; intro px _ H); (simp only [Act.put, List.setIfInBounds_toArray, List.set_cons_zero, List.set_cons_succ]))
            | ((with_reducible show wpList _ _ _ (_ :: _) _ _); (with_reducible apply wpl_storeRH row_edg); (· rfl); (· rfl); (· rfl); (· with_reducible exact edg_cells ..); (· exact H); (· (repeat (first | (with_reducible exact List.mem_cons_self) | with_reducible apply List.mem_cons_of_mem))); (· (simp only [edg_sz, Nat.reduceAdd, Nat.reduceLeDiff, Nat.le_refl]; done)); (· with_reducible exact edg_splice ..); (· (repeat (first | (with_reducible exact Repl.here) | with_reducible apply Repl.there))); (clear H; intro _ H); (simp only [Act.put, List.setIfInBounds_toArray, List.set_cons_zero, List.set_cons_succ]))
            | ((with_reducible show wpList _ _ _ (_ :: _) _ _); (with_reducible apply wpl_loadRH row_edg); (· rfl); (· rfl); (· exact H); (· (repeat (first | (with_reducible exact List.mem_cons_self) | with_reducible apply List.mem_cons_of_mem))); (· (simp only [edg_sz, Nat.reduceAdd, Nat.reduceLeDiff, Nat.le_refl]; done)); (· with_reducible exact edg_all ..); (simp only [Act.put, List.setIfInBounds_toArray, List.set_cons_zero, List.set_cons_succ]))
            | ((with_reducible refine AnsH.call (D _) H ?_); clear H; intro _ H))
          refine ⟨⟨k + 1, j, G, by omega, rfl, by go_num, HI.out, H.tail⟩, ?measure⟩
          case measure => simp [intOf]; omega
        · have HI := Lib.hid (hI.yes hkF e)
          have D := fun px => del_H (W := W) (l := Cel px (edg F[k].f F[k].t F[k].c) 194 :: Cel g (ec G r) 194 :: l) F[k] hok
          rw [e] at D
          clear hI hat hok e
          generalize F[k] = x at *
          have hput := ec_put (r := r) x hjG
          go_wp2_with (first
            | go_skip
            | ((with_reducible show wpList _ _ _ (_ :: _) _ _); (with_reducible apply wpl_loadRH row_edg); (· rfl); (· rfl); (· exact H); (· exact List.mem_cons_self); (· exact hsz); (· exact hpart); (simp only [Act.put, List.setIfInBounds_toArray, List.set_cons_zero, List.set_cons_succ]))
            | ((with_reducible show wpList _ _ _ (_ :: _) _ _); (with_reducible apply wpl_allocRH row_edg); (· rfl); (· exact H); (clear H; intro px _ H); (simp only [Act.put, List.setIfInBounds_toArray, List.set_cons_zero, List.set_cons_succ]))
            | ((with_reducible show wpList _ _ _ (_ :: _) _ _); (with_reducible apply wpl_storeRH row_edg); (· rfl); (· rfl); (· rfl); (· exact edg_cells ..); (· exact H); (· exact List.mem_cons_of_mem _ List.mem_cons_self); (· exact hsj); (· exact hput); (· exact Repl.there Repl.here); (clear H; intro _ H); (simp only [Act.put, List.setIfInBounds_toArray, List.set_cons_zero, List.set_cons_succ]))
            | ((with_reducible show wpList _ _ _ (_ :: _) _ _); (with_reducible apply wpl_storeRH row_edg); (· rfl); (· rfl); (· rfl); (· with_reducible exact edg_cells ..); (· exact H); (· (repeat (first | (with_reducible exact List.mem_cons_self) | with_reducible apply List.mem_cons_of_mem))); (· (simp only [edg_sz, Nat.reduceAdd, Nat.reduceLeDiff, Nat.le_refl]; done)); (· with_reducible exact edg_splice ..); (· (repeat (first | (with_reducible exact Repl.here) | with_reducible apply Repl.there))); (clear H; intro _ H); (simp only [Act.put, List.setIfInBounds_toArray, List.set_cons_zero, List.set_cons_succ]))
            | ((with_reducible show wpList _ _ _ (_ :: _) _ _); (with_reducible apply wpl_loadRH row_edg); (· rfl); (· rfl); (· exact H); (· (repeat (first | (with_reducible exact List.mem_cons_self) | with_reducible apply List.mem_cons_of_mem))); (· (simp only [edg_sz, Nat.reduceAdd, Nat.reduceLeDiff, Nat.le_refl]; done)); (· with_reducible exact edg_all ..); (simp only [Act.put, List.setIfInBounds_toArray, List.set_cons_zero, List.set_cons_succ]))
            | ((with_reducible refine AnsH.call (D _) H ?_); clear H; intro _ H))
          refine ⟨⟨k + 1, j + 1, _, by omega, by go_num, by go_num, HI.out, H.tail⟩, ?measure⟩
          case measure => simp [intOf]; omega
      · obtain rfl : k = n := by omega
        have hD := (show G.take j = F.filter keepE by have h := hI; rw [← HL.out] at h; exact h.done)
        have hGl : G.length = k := by rw [hI.len]; exact HL.out
        have hfit : j * 3 + (k - j) * 3 ≤ (ec G r).size := by rw [ec_sz, hGl]; omega
        have hz1 : ∀ u ∈ (Value.agg #[.int .u8 0, .int .u8 0, .int .i8 0]).cells, u.oneCell' = true := by
          intro u hu
          simp [Value.cells] at hu
          rcases hu with rfl | rfl | rfl <;> rfl
        have HDD := Lib.hid hD
        have HGL := Lib.hid hGl
        clear hI hD hGl
        go_wp2_with (first
          | go_skip
          | ((with_reducible show wpList _ _ _ (_ :: _) _ _); (with_reducible apply wpl_clearC slE); (· exact hz1); (· rfl); (· rfl); (· rfl); (· exact H); (· exact hfit); (clear H; intro c1 _ hc1 hc2 H); (simp only [Act.put, List.setIfInBounds_toArray, List.set_cons_zero, List.set_cons_succ])))
        go_ret
        have hlen : (F.filter keepE).length = j := by rw [← HDD.out, List.length_take, HGL.out]; omega
        refine ⟨c1, ?_, ?_, H⟩
        · rw [hlen]; rfl
        · rw [hlen, hc2, ← HDD.out, ← edgL_take G j (by rw [HGL.out]; omega)]
          unfold ec
          rw [List.toList_toArray, List.take_append_of_le_length (by rw [edgL_len, HGL.out]; omega)]
  · rw [delAt_no hd] at I
    have HD := Lib.hid (filter_all hd)
    clear hd
    go_enter Try.func133, Try.ntmps133
    go_wp2_with (first | go_skip | ((with_reducible refine AnsH.call (by assumption) H ?_); clear H; intro _ H))
    go_ret
    refine ⟨ec F r, ?_, ?_, H⟩
    · rw [HD.out, hl]; rfl
    · rw [HD.out]
      unfold ec
      rw [List.toList_toArray, ← edgL_len]
      exact List.take_left
end
end Go.Proofs.Ytgobnamhdkbbeaa

/- slices.Grow, slices.Concat of parties. -/
namespace Go.Proofs.Ytgobnamhdkbbeaa
open Go.RowKit
set_option linter.unusedSimpArgs false
set_option linter.unusedVariables false
theorem wpl_growNil {ops : Array Oper} {rest : List Oper} {o : Oper} {a : Act} {w W : World} {l : List Thing} {Q : Exit → Act → World → Prop} {t tn e size bytes : Nat} {z : Value} (T : SlTy Try.prog t e size bytes z) {kn : IntKind} (htn : Try.prog.underlying tn = some (.int kn)) (hgd : o.guard = none) {s x : Operand}
    (ho : o.op = .call { callee := .builtin .append, args := #[s, x], argTypes := #[t, tn] }) {k : IntKind} {n : Nat} (hs : a.eval s = .slice none 0 0) (hx : a.eval x = .int k (n : Int)) (h0 : 0 < n) (hn : n ≤ 65536) (hb : n * bytes ≤ 281474976710656)
    (H : Heap W l w) (h : ∀ g m cs w', n ≤ m → m ≤ maxLen → cs.size = m * size → Heap W (Cel g cs e :: l) w' → wpList Try.prog ops Q rest (a.put o.dst (.slice (some ⟨g, 0, none⟩) n m)) w') : wpList Try.prog ops Q (o :: rest) a w := by
  obtain ⟨i, hi, hz, hsi, hbi⟩ := T.inf
  subst hsi hbi
  have hr := Lib.run_append_nil_zeros (P := Try.prog) w t tn o.type e i z k kn T.und htn hi hz n h0 T.pos (by omega) hb
  refine Lib.wpList_append_run w hgd s x t tn ho _ _ hs hx _ _ hr ?_
  have hge := grownCap_ge w n 0 e
  have hle := grownCap_le_maxLen w n 0 e (by unfold maxLen; omega)
  refine h _ _ _ _ hge hle ?_ (H.drew.alloc _ _)
  rw [Array.size_append, size_zeroCells, size_zeroCells, T.zc, ← Nat.add_mul, Nat.add_sub_cancel' hge]
section
variable {W w : World} {l : List Thing}
set_option maxRecDepth 100000
set_option maxHeartbeats 2000000
theorem grow_H (n : Nat) (h0 : 1 ≤ n) (hn : n ≤ 65536) (H : Heap W l w) :
    Calls Try.prog 160 #[.slice none 0 0, .int .i64 (n : Int)] w fun e w' => ∃ v, e = .returned v ∧ Heap W (RowT 30 1 v 0 [] :: l) w' := by
  go_enter Try.func160, Try.ntmps160
  have ht : Try.prog.underlying 3 = some (.int .i64) := Try.underlying3
  go_wp2_with (first
    | go_skip
    | ((with_reducible show wpList _ _ _ (_ :: _) _ _); (with_reducible apply wpl_growNil slP); (· exact ht); (· rfl); (· rfl); (· rfl); (· rfl); (· exact h0); (· exact hn); (· omega); (· exact H); (clear H; intro g m cs _ hm1 hm2 hcs H); (simp only [Act.put, List.setIfInBounds_toArray, List.set_cons_zero, List.set_cons_succ])))
  go_ret
  exact ⟨_, rfl, H.celRow (n := 0) (m := m) hcs (Nat.zero_le _) hm2⟩
theorem cell_parties : CellTy 100 := ⟨⟨_, Try.underlying100, rfl⟩, by kernel_rfl⟩
theorem pv_ones_all (L : List Nat) : OneCells (L.map pv) := by
  intro u hu
  obtain ⟨x, _, rfl⟩ := List.mem_map.1 hu
  rfl
def pick2 {α : Type} (k : Nat) (x y z : α) : α := if k = 0 then x else if k = 1 then y else z
structure CatLoop (W : World) (l : List Thing) (A B : List Nat) (vs vi : Value) (wr : World) : Prop where
  out : ∃ k : Nat, k ≤ 2 ∧ vi = .int .i64 (k : Int) ∧ Heap W (RowT 30 1 vs (pick2 k 0 A.length (A.length + B.length)) ((pick2 k [] A (A ++ B)).map pv) :: l) wr
structure LenLoop (W : World) (l : List Thing) (A B : List Nat) (vs vi : Value) (wr : World) : Prop where
  out : ∃ k : Nat, k ≤ 2 ∧ vi = .int .i64 (k : Int) ∧ vs = .int .i64 ((pick2 k 0 A.length (A.length + B.length) : Nat) : Int) ∧ Heap W l wr
theorem concat_H (q g oa ca ob cb : Nat) (A B : List Nat) (h0 : 1 ≤ A.length + B.length) (hA : A.length ≤ 1000) (hB : B.length ≤ 1000) (RA : ∀ w', Heap W l w' → Rd w' (some ⟨g, oa, none⟩) (A.map pv)) (RB : ∀ w', Heap W l w' → Rd w' (some ⟨g, ob, none⟩) (B.map pv))
    (m : Cel q #[.slice (some ⟨g, oa, none⟩) A.length ca, .slice (some ⟨g, ob, none⟩) B.length cb] 100 ∈ l) (H : Heap W l w) :
    Calls Try.prog 141 #[.slice (some ⟨q, 0, none⟩) 2 2] w fun e w' => ∃ v, e = .returned v ∧ Heap W (RowT 30 1 v (A.length + B.length) ((A ++ B).map pv) :: l) w' := by
  have HRA := Lib.hid RA
  have HRB := Lib.hid RB
  clear RA RB
  have hG := fun (W0 : World) (H : Heap W l W0) => grow_H (W := W) (l := l) (w := W0) (A.length + B.length) h0 (by omega) H
  rw [Int.natCast_add] at hG
  go_enter Try.func141, Try.ntmps141
  go_wp2_with (go_skip)
  have H0 := H
  clear H
  go_loopw [3, 11] (fun vs vi wr => LenLoop W l A B vs vi wr) (fun _ vi _ => 2 - (intOf vi).toNat)
  case atStart => exact ⟨0, by omega, rfl, rfl, H0⟩
  case round =>
    obtain ⟨k, hk, rfl, rfl, H'⟩ := hrel.out
    clear H0 hrel
    have H := H'
    clear H'
    by_cases hk0 : k = 0
    · subst hk0
      simp only [pick2, if_true]
      go_wp2_with (first
        | go_skip
        | ((with_reducible show wpList _ _ _ (_ :: _) _ _); (with_reducible apply wpl_loadCH); (· exact cell_parties); (· rfl); (· rfl); (· exact H); (· exact m); (· rfl); (simp only [Act.put, List.setIfInBounds_toArray, List.set_cons_zero, List.set_cons_succ])))
      refine ⟨⟨1, by omega, rfl, ?_, H⟩, ?measure⟩
      · simp [pick2]
      case measure => simp [intOf]
    · by_cases hk1 : k = 1
      · subst hk1
        have e1 : pick2 1 0 A.length (A.length + B.length) = A.length := rfl
        rw [e1]
        go_wp2_with (first
          | go_skip
          | ((with_reducible show wpList _ _ _ (_ :: _) _ _); (with_reducible apply wpl_loadCH); (· exact cell_parties); (· rfl); (· rfl); (· exact H); (· exact m); (· rfl); (simp only [Act.put, List.setIfInBounds_toArray, List.set_cons_zero, List.set_cons_succ])))
        refine ⟨⟨2, by omega, rfl, ?_, H⟩, ?measure2⟩
        · simp [pick2]
        case measure2 => simp [intOf]
      · obtain rfl : k = 2 := by omega
        have e2 : pick2 2 0 A.length (A.length + B.length) = A.length + B.length := rfl
        rw [e2]
        go_wp2_with (first
          | go_skip
          | ((with_reducible refine (hG _ H).mono ?_); clear H; rintro _ _ ⟨v0, rfl, H⟩))
        have H0 := H
        clear H hG
        go_loopw [6, 27] (fun vs vi wr => CatLoop W l A B vs vi wr) (fun _ vi _ => 2 - (intOf vi).toNat)
        case atStart => exact ⟨0, by omega, rfl, H0⟩
        case round =>
          obtain ⟨k, hk, rfl, H'⟩ := hrel.out
          clear H0 hrel
          have H := H'
          clear H'
          have hA0 : 0 + A.length ≤ maxLen := by unfold maxLen; omega
          have hA1 : (0 + A.length) * 1 ≤ 140737488355328 := by omega
          have hB0 : A.length + B.length ≤ maxLen := by unfold maxLen; omega
          have hB1 : (A.length + B.length) * 1 ≤ 140737488355328 := by omega
          have hA2 : (A.map pv).length = A.length * 1 := by simp
          have hB2 : (B.map pv).length = B.length * 1 := by simp
          by_cases hk0 : k = 0
          · subst hk0
            go_wp2_with (first
              | go_skip
              | ((with_reducible show wpList _ _ _ (_ :: _) _ _); (with_reducible apply wpl_loadCH); (· exact cell_parties); (· rfl); (· rfl); (· exact H); (· exact List.mem_cons_of_mem _ m); (· rfl); (simp only [Act.put, List.setIfInBounds_toArray, List.set_cons_zero, List.set_cons_succ]))
              | ((with_reducible show wpList _ _ _ (_ :: _) _ _); (with_reducible apply wpl_appendH slP); (· rfl); (· rfl); (· rfl); (· rfl); (· exact H); (· exact HRA.out _ H.tail); (· exact hA2); (· exact pv_ones_all A); (· exact hA0); (· exact hA1); (clear H; intro v2 _ H); (simp only [Act.put, List.setIfInBounds_toArray, List.set_cons_zero, List.set_cons_succ])))
            refine ⟨⟨1, by omega, rfl, ?_⟩, ?measure⟩
            · have e : pick2 0 0 A.length (A.length + B.length) + A.length = A.length := by simp [pick2]
              rw [e] at H
              exact H
            case measure => simp [intOf]
          · by_cases hk1 : k = 1
            · subst hk1
              go_wp2_with (first
                | go_skip
                | ((with_reducible show wpList _ _ _ (_ :: _) _ _); (with_reducible apply wpl_loadCH); (· exact cell_parties); (· rfl); (· rfl); (· exact H); (· exact List.mem_cons_of_mem _ m); (· rfl); (simp only [Act.put, List.setIfInBounds_toArray, List.set_cons_zero, List.set_cons_succ]))
                | ((with_reducible show wpList _ _ _ (_ :: _) _ _); (with_reducible apply wpl_appendH slP); (· rfl); (· rfl); (· rfl); (· rfl); (· exact H); (· exact HRB.out _ H.tail); (· exact hB2); (· exact pv_ones_all B); (· exact hB0); (· exact hB1); (clear H; intro v2 _ H); (simp only [Act.put, List.setIfInBounds_toArray, List.set_cons_zero, List.set_cons_succ])))
              refine ⟨⟨2, by omega, rfl, ?_⟩, ?measure2⟩
              · have e : (pick2 2 [] A (A ++ B)).map pv = (pick2 1 [] A (A ++ B)).map pv ++ B.map pv := by simp [pick2]
                rw [e]
                exact H
              case measure2 => simp [intOf]
            · obtain rfl : k = 2 := by omega
              go_wp2_with (go_skip)
              go_ret
              exact ⟨_, rfl, H⟩
end
end Go.Proofs.Ytgobnamhdkbbeaa
