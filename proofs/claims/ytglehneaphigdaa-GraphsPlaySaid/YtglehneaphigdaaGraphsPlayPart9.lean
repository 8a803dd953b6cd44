/- GraphsPlay: part 9 of its proof: HeapEarly, Reverse, Ways, Short, HeapClear. -/
import Derived.Test.YtglehneaphigdaaGraphsPlayPart8
/- A region that draws its order, with loud operations in one order, whose reads may be of what the loud ones change: a read that every loud one stands behind reads the things as they are (a swap: s[i], s[j] = s[j], s[i]). -/
namespace Go.Proofs.Ytglehneaphigdaa
open Go.RowKit
set_option linter.unusedVariables false
section
variable {P : Program} {ops : Array Oper} {md : Region.Mode} {W : World} {G : List Thing → Prop} {loud : List Nat}
def WholeE (P : Program) (md : Region.Mode) (ops : Array Oper) (W : World) (G : List Thing → Prop) (loud : List Nat) (K : List Thing → Act → Prop) : Nat → List Thing → Array Bool → Act → Prop
  | 0, l, listed, a => Region.ready md ops listed = [] ∧ K l a
  | f + 1, l, listed, a => Region.ready md ops listed ≠ [] ∧ ∀ i ∈ Region.ready md ops listed, ∃ o, ops[i]? = some o ∧
      ((∃ v, YieldsG P ops W (fun l' => l' = l) o v a ∧ WholeE P md ops W G loud K f l (listed.setIfInBounds i true) (a.put o.dst v)) ∨
       (loud.contains i = true ∧ LoudG P ops W o l a fun l' u => G l' ∧ WholeE P md ops W G loud K f l' (listed.setIfInBounds i true) (a.put o.dst u)))
theorem WholeE.any {K : List Thing → Act → Prop} {Q : Exit → Act → World → Prop} (hK : ∀ l a w, Heap W l w → K l a → Q .normal a w) :
    ∀ (f : Nat) (l : List Thing) (listed : Array Bool) (a : Act) (w : World), Heap W l w → WholeE P md ops W G loud K f l listed a → wpAny P md ops Q f listed a w := by
  intro f
  induction f with
  | zero => intro l listed a w H h; exact ⟨h.1, hK _ _ _ H h.2⟩
  | succ f ih =>
    intro l listed a w H h
    refine ⟨fun h0 => absurd h0 h.1, fun i hi => ?_⟩
    obtain ⟨o, ho, h⟩ := h.2 i hi
    rcases h with ⟨v, hy, h⟩ | ⟨_, h⟩
    · refine wpOp_of_qOp (C := fun w' => ∃ d, w' = H.any d) (H.any_of H) (fun a' w' hw' ha' => ?_) ((hy l rfl w H).qOp ho (K := fun a' => a' = a.put o.dst v) rfl)
      obtain ⟨d, rfl⟩ := hw'
      subst ha'
      exact ih _ _ _ _ (H.any_heap d) h
    · obtain ⟨l', u, w', hr, H', _, hk⟩ := h.2 w H
      unfold wpOp
      simp only [ho]
      rw [if_pos h.1]
      refine .inl ?_
      unfold Oper.wp
      rcases hr with hr | ⟨hr, rfl⟩ <;> rw [hr] <;> exact ih _ _ _ _ H' hk
/-- Every loud one stands behind it. -/
def Region.early (md : Region.Mode) (ops : Array Oper) (loud : List Nat) (k : Nat) : Bool := loud.all fun j => match ops[j]? with
  | some o => o.after.any fun e => Region.binds md e && e.on == k
  | none => true
theorem Region.early_spec {k j : Nat} {o : Oper} (h : Region.early md ops loud k = true) (hj : loud.contains j = true) (ho : ops[j]? = some o) : ∃ e ∈ o.after, Region.binds md e = true ∧ e.on = k := by
  unfold Region.early at h
  rw [List.all_eq_true] at h
  have := h j (by simpa using hj)
  rw [ho] at this
  simp only [Array.any_eq_true, Bool.and_eq_true, beq_iff_eq] at this
  obtain ⟨i, hi, h1, h2⟩ := this
  exact ⟨o.after[i], Array.getElem_mem hi, h1, h2⟩
/-- It yields v: whatever the things, or early, as they are. -/
def Firm (P : Program) (md : Region.Mode) (ops : Array Oper) (W : World) (G : List Thing → Prop) (loud : List Nat) (k : Nat) (l : List Thing) (o : Oper) (v : Value) (a : Act) : Prop :=
  (G l ∧ YieldsG P ops W G o v a) ∨ (Region.early md ops loud k = true ∧ YieldsG P ops W (fun l' => l' = l) o v a)
theorem Firm.now {k : Nat} {l : List Thing} {o : Oper} {v : Value} {a : Act} (h : Firm P md ops W G loud k l o v a) : YieldsG P ops W (fun l' => l' = l) o v a := by
  rcases h with ⟨hg, h⟩ | ⟨_, h⟩
  · intro l' e w H; subst e; exact h _ hg w H
  · exact h
theorem Firm.of_same {k : Nat} {l : List Thing} {o : Oper} {v : Value} {a a' : Act} (h : Firm P md ops W G loud k l o v a) (he : execOp a'.eval o = execOp a.eval o)
    (hw : Region.wanted o (yielded ops a'.tmps) = Region.wanted o (yielded ops a.tmps)) : Firm P md ops W G loud k l o v a' := by
  rcases h with ⟨hg, h⟩ | ⟨h0, h⟩
  · exact .inl ⟨hg, h.of_same he hw⟩
  · exact .inr ⟨h0, h.of_same he hw⟩
theorem WholeE.first {i : Nat} {oi : Oper} {v : Value} {K : List Thing → Act → Prop} (hi : ops[i]? = some oi) (hsel : ∀ (j : Nat) (o : Oper) cs b, ops[j]? = some o → o.op ≠ .select cs b) :
    ∀ (f : Nat) (l : List Thing) (listed : Array Bool) (a : Act),
      (∀ j oj, ops[j]? = some oj → j ≠ i → listed.getD j true = false → (∀ e ∈ oj.after, Region.binds md e = true → e.on ≠ i) → oi.apart ops oj = true) →
      i ∈ Region.ready md ops listed → Firm P md ops W G loud i l oi v a → WholeE P md ops W G loud K f l (listed.setIfInBounds i true) (a.put oi.dst v) → WholeE P md ops W G loud K (f + 1) l listed a := by
  intro f
  induction f with
  | zero =>
    intro l listed a _ hr hy H
    refine ⟨fun h => by rw [h] at hr; simp at hr, fun j hj => ?_⟩
    by_cases e : j = i
    · subst e; exact ⟨oi, hi, .inl ⟨v, hy.now, H⟩⟩
    · have := ready_mono hj e
      rw [H.1] at this; cases this
  | succ f ih =>
    intro l listed a hfree hr hy H
    have hun := (mem_ready.1 hr).1
    refine ⟨fun h => by rw [h] at hr; simp at hr, fun j hj => ?_⟩
    by_cases e : j = i
    · subst e; exact ⟨oi, hi, .inl ⟨v, hy.now, H⟩⟩
    · obtain ⟨hjun, oj, hoj, hall⟩ := mem_ready.1 hj
      have hnot : ∀ e ∈ oj.after, Region.binds md e = true → e.on ≠ i := fun e he hb heq => by
        have := hall e he hb
        rw [heq, getD_both hun] at this
        cases this
      obtain ⟨h1, h2, h3⟩ := Oper.apart_spec (hfree j oj hoj e hjun hnot)
      have hsi := fun cs b => hsel i oi cs b hi
      have hsj := fun cs b => hsel j oj cs b hoj
      have hfree' : ∀ k ok, ops[k]? = some ok → k ≠ i → (listed.setIfInBounds j true).getD k true = false →
          (∀ e ∈ ok.after, Region.binds md e = true → e.on ≠ i) → oi.apart ops ok = true := fun k ok hk hki hun hno => by
        refine hfree k ok hk hki ?_ hno
        by_cases hjk : j = k
        · subst hjk; exact hjun
        · rw [getD_set_ne true hjk] at hun; exact hun
      obtain ⟨o', ho', h⟩ := H.2 j (ready_mono hj e)
      obtain rfl : o' = oj := Option.some.inj (ho'.symm.trans hoj)
      refine ⟨o', hoj, ?_⟩
      rcases h with ⟨u, hu, h⟩ | ⟨hl, h⟩
      · refine .inl ⟨u, hu.of_same (execOp_put o' hsj a oi.dst v h1).symm (wanted_put o' a oi.dst v h1).symm, ih _ _ _ hfree' (ready_mono hr (Ne.symm e)) (hy.of_same (execOp_put oi hsi a o'.dst u h3) (wanted_put oi a o'.dst u h3)) ?_⟩
        rw [Array.setIfInBounds_comm _ _ e, ← Act.put_comm a v _ h2]
        exact h
      · rcases hy with ⟨hg, hy⟩ | ⟨he, _⟩
        · refine .inr ⟨hl, (h.of_same (execOp_put o' hsj a oi.dst v h1).symm (wanted_put o' a oi.dst v h1).symm).mono fun l' u ⟨hg', h⟩ => ⟨hg', ih _ _ _ hfree' (ready_mono hr (Ne.symm e)) (.inl ⟨hg', hy.of_same (execOp_put oi hsi a o'.dst u h3) (wanted_put oi a o'.dst u h3)⟩) ?_⟩⟩
          rw [Array.setIfInBounds_comm _ _ e, ← Act.put_comm a v _ h2]
          exact h
        · obtain ⟨ed, hed, hb, hon⟩ := Region.early_spec he hl hoj
          exact absurd hon (hnot ed hed hb)
/-- The walk in an order of one's own. -/
def wpE (P : Program) (ops : Array Oper) (W : World) (G : List Thing → Prop) (loud : List Nat) (K : List Thing → Act → Prop) : List Nat → List Thing → Act → Prop
  | [], l, a => K l a
  | k :: ks, l, a => ∃ o, ops[k]? = some o ∧ if loud.contains k then LoudG P ops W o l a fun l' u => G l' ∧ wpE P ops W G loud K ks l' (a.put o.dst u)
      else ∃ v, Firm P .any ops W G loud k l o v a ∧ wpE P ops W G loud K ks l (a.put o.dst v)
theorem WholeE.lexO {K : List Thing → Act → Prop} (hsel : Region.noSelect ops = true) :
    ∀ (ks : List Nat) (l : List Thing) (listed : Array Bool) (a : Act), Region.lexO .any ops loud ks listed = true → wpE P ops W G loud K ks l a → WholeE P .any ops W G loud K ks.length l listed a := by
  intro ks
  induction ks with
  | nil => intro l listed a hB h; exact ⟨by simpa [Region.lexO] using hB, h⟩
  | cons k ks ih =>
    intro l listed a hB h
    obtain ⟨o, h0, h⟩ := h
    rw [Region.lexO] at hB
    simp only [Bool.and_eq_true] at hB
    obtain ⟨hB, hB'⟩ := hB
    by_cases hk : loud.contains k = true
    · rw [if_pos hk] at h hB
      have hr : Region.ready .any ops listed = [k] := by simpa using hB
      refine ⟨by rw [hr]; simp, fun i hi => ?_⟩
      rw [hr] at hi
      obtain rfl : i = k := by simpa using hi
      exact ⟨o, h0, .inr ⟨hk, h.mono fun l' u ⟨hg, h⟩ => ⟨hg, ih _ _ _ hB' h⟩⟩⟩
    · rw [if_neg hk] at h hB
      simp only [Bool.and_eq_true] at hB
      obtain ⟨v, hy, h⟩ := h
      exact WholeE.first h0 (Region.noSelect_spec hsel) ks.length l listed a (Region.free_spec h0 hB.2) (by simpa using hB.1) hy (ih _ _ _ hB' h)
theorem wp_region_E {id : Nat} {Q : Exit → Act → World → Prop} {a : Act} {w : World} {l : List Thing} {lo : List Oper} (loud ord : List Nat) (G : List Thing → Prop) (H : Heap W l w) (hm : P.follows .mixedOrders = true) (hB : Region.lexOB lo.toArray loud ord = true)
    (h : wpE P lo.toArray W G loud (fun l' a' => ∀ w', Heap W l' w' → Q .normal a' w') ord l a) : (Code.region id lo.toArray true).wp P Q a w := by
  simp only [Region.lexOB, Bool.and_eq_true, beq_iff_eq] at hB
  refine wp_region_any hm ?_
  have := WholeE.lexO hB.1.1 ord l _ a hB.1.2 h
  have h2 := WholeE.any (Q := Q) (fun l a w H h => h w H) ord.length l _ a _ H.drew this
  rw [hB.2] at h2
  exact h2
theorem wpE_nil {K : List Thing → Act → Prop} {l : List Thing} {a : Act} (h : K l a) : wpE P ops W G loud K [] l a := h
theorem yields_of {G' : List Thing → Prop} {lo : List Oper} {o : Oper} {a : Act} {s : Nat} {v : Value} (hd : o.dst = some s) (hlt : s < a.tmps.size)
    (h1 : ∀ l0, G' l0 → ∀ (w0 : World) (H0 : Heap W l0 w0), wpQuiet P lo.toArray (fun w' => ∃ d, w' = H0.any d) (fun a' => a'.tmps.getD s undef = v) [o] a) : YieldsG P lo.toArray W G' o v a := by
  have inj : ∀ u, (a.put o.dst u).tmps.getD s undef = v → u = v := fun u h => by
    rw [hd] at h
    simp [Act.put, hlt] at h
    exact h
  intro l0 hl0 w0 H0
  have h := h1 l0 hl0 w0 H0
  unfold wpQuiet at h
  by_cases hw : Region.wanted o (yielded lo.toArray a.tmps) = true
  · rw [if_pos hw] at h
    obtain ⟨u, hu, hk⟩ := h
    obtain rfl := inj u hk
    exact .inl ⟨hw, hu⟩
  · rw [if_neg hw] at h
    exact .inr ⟨by simpa using hw, (inj undef h).symm⟩
/-- A quiet one that reads nothing of the things. -/
theorem wpE_step {lo : List Oper} {K : List Thing → Act → Prop} {o : Oper} {k : Nat} {ks : List Nat} {l : List Thing} {a : Act} {s : Nat} {v : Value} (ho : lo[k]? = some o) (hk : loud.contains k = false) (hd : o.dst = some s) (hlt : s < a.tmps.size)
    (h1 : ∀ l0, True → ∀ (w0 : World) (H0 : Heap W l0 w0), wpQuiet P lo.toArray (fun w' => ∃ d, w' = H0.any d) (fun a' => a'.tmps.getD s undef = v) [o] a) (h2 : wpE P lo.toArray W (fun _ => True) loud K ks l (a.put o.dst v)) : wpE P lo.toArray W (fun _ => True) loud K (k :: ks) l a := by
  refine ⟨o, by simpa using ho, ?_⟩
  rw [if_neg (by rw [hk]; exact Bool.false_ne_true)]
  exact ⟨v, .inl ⟨trivial, yields_of hd hlt h1⟩, h2⟩
/-- An early read. -/
theorem wpE_early {lo : List Oper} {K : List Thing → Act → Prop} {o : Oper} {k : Nat} {ks : List Nat} {l : List Thing} {a : Act} {s : Nat} {v : Value} (ho : lo[k]? = some o) (hk : loud.contains k = false) (he : Region.early .any lo.toArray loud k = true) (hd : o.dst = some s) (hlt : s < a.tmps.size)
    (h1 : ∀ (w0 : World) (H0 : Heap W l w0), wpQuiet P lo.toArray (fun w' => ∃ d, w' = H0.any d) (fun a' => a'.tmps.getD s undef = v) [o] a) (h2 : wpE P lo.toArray W G loud K ks l (a.put o.dst v)) : wpE P lo.toArray W G loud K (k :: ks) l a := by
  refine ⟨o, by simpa using ho, ?_⟩
  rw [if_neg (by rw [hk]; exact Bool.false_ne_true)]
  exact ⟨v, .inr ⟨he, yields_of hd hlt fun l0 e w0 H0 => by subst e; exact h1 w0 H0⟩, h2⟩
theorem wpE_loud {lo : List Oper} {K : List Thing → Act → Prop} {o : Oper} {k : Nat} {ks : List Nat} {l : List Thing} {a : Act} (ho : lo[k]? = some o) (hk : loud.contains k = true) (h : LoudG P lo.toArray W o l a fun l' u => G l' ∧ wpE P lo.toArray W G loud K ks l' (a.put o.dst u)) : wpE P lo.toArray W G loud K (k :: ks) l a := by
  refine ⟨o, by simpa using ho, ?_⟩
  rw [if_pos hk]
  exact h
end
section
variable {ops : Array Oper} {W : World} {loud : List Nat} {K : List Thing → Act → Prop} {l : List Thing} {a : Act}
theorem wpE_storeC {lo : List Oper} {ks : List Nat} {k : Nat} {T : TypeId} {dst : Option Tmp} {ty : TypeId} {pos : String} {after : Array Edge} {guard : Option (Nat × Bool)} {x y : Operand} {b off : Nat} {v : Value} (CT : CellTy T) (ho : lo[k]? = some ⟨dst, .store T x y, ty, pos, after, guard⟩) (hk : loud.contains k = true) (hw : Region.wanted ⟨dst, .store T x y, ty, pos, after, guard⟩ (yielded lo.toArray a.tmps) = true) (hx : a.eval x = .pointer (some ⟨b, off, none⟩)) (hy : a.eval y = v) (hc : v.cells = #[v] ∧ v.oneCell' = true)
    {c c1 : Array Value} {t : TypeId} {l' : List Thing} (m : Cel b c t ∈ l) (hn : off < c.size) (hs : c.setIfInBounds off v = c1) (r : Repl l (Cel b c t) (Cel b c1 t) l')
    (h : wpE Try.prog lo.toArray W (fun _ => True) loud K ks l' (a.put dst undef)) : wpE Try.prog lo.toArray W (fun _ => True) loud K (k :: ks) l a := by
  subst hs
  refine wpE_loud ho hk ⟨hw, fun w H => ⟨l', undef, setBlk w b (c.setIfInBounds off v), .inr ⟨?_, rfl⟩, H.set r, trivial, h⟩⟩
  unfold execOp
  simp only [hx, hy, Sem.run_bind, run_storeC CT hc (H.blk m) hn, Result.andThen_ok]
  rfl
theorem wpE_storeI {lo : List Oper} {ks : List Nat} {k : Nat} {T : TypeId} {dst : Option Tmp} {ty : TypeId} {pos : String} {after : Array Edge} {guard : Option (Nat × Bool)} {x y : Operand} {b off : Nat} {k0 : IntKind} {n0 : Int} (CT : CellTy T) (ho : lo[k]? = some ⟨dst, .store T x y, ty, pos, after, guard⟩) (hk : loud.contains k = true) (hw : Region.wanted ⟨dst, .store T x y, ty, pos, after, guard⟩ (yielded lo.toArray a.tmps) = true) (hx : a.eval x = .pointer (some ⟨b, off, none⟩)) (hy : a.eval y = .int k0 n0)
    {c c1 : Array Value} {t : TypeId} {l' : List Thing} (m : Cel b c t ∈ l) (hn : off < c.size) (hs : c.setIfInBounds off (.int k0 n0) = c1) (r : Repl l (Cel b c t) (Cel b c1 t) l')
    (h : wpE Try.prog lo.toArray W (fun _ => True) loud K ks l' (a.put dst undef)) : wpE Try.prog lo.toArray W (fun _ => True) loud K (k :: ks) l a := wpE_storeC CT ho hk hw hx hy ⟨rfl, rfl⟩ m hn hs r h
end
end Go.Proofs.Ytglehneaphigdaa

/- slices.Reverse of parties. -/
namespace Go.Proofs.Ytglehneaphigdaa
open Go.RowKit
set_option linter.unusedSimpArgs false
set_option linter.unusedVariables false
/-- A block that begins with these parties. -/
def pc (L : List Nat) (r : List Value) : Array Value := (L.map pv ++ r).toArray
theorem pc_sz (L : List Nat) (r : List Value) : (pc L r).size = L.length + r.length := by simp [pc]
theorem pc_get {L : List Nat} {r : List Value} {k x : Nat} (h : L[k]? = some x) : (pc L r)[k]? = some (.int .u8 (x : Int)) := by
  obtain ⟨hk, hx⟩ := List.getElem?_eq_some_iff.1 h
  unfold pc
  rw [List.getElem?_toArray, List.getElem?_append_left (by simpa using hk), List.getElem?_map, h]
  rfl
theorem pc_set {L : List Nat} {r : List Value} {k : Nat} (x : Nat) (h : k < L.length) : (pc L r).setIfInBounds k (.int .u8 (x : Int)) = pc (L.set k x) r := by
  unfold pc
  rw [List.setIfInBounds_toArray, List.set_append_left _ _ (by simpa using h)]
  congr 2
  rw [List.map_set]
  rfl
/-- Amid the turning: i from each end are changed. -/
def Turned (L M : List Nat) (i : Nat) : Prop := M.length = L.length ∧ ∀ k, k < L.length → M[k]? = if k < i ∨ L.length < k + 1 + i then L[L.length - 1 - k]? else L[k]?
theorem Turned.start (L : List Nat) : Turned L L 0 := ⟨rfl, fun k hk => by rw [if_neg (by omega)]⟩
theorem Turned.low {L M : List Nat} {i : Nat} (h : Turned L M i) (hi : i + i + 1 < L.length) : M[i]? = L[i]? := by
  rw [h.2 i (by omega), if_neg (by omega)]
theorem Turned.high {L M : List Nat} {i : Nat} (h : Turned L M i) (hi : i + i + 1 < L.length) : M[L.length - 1 - i]? = L[L.length - 1 - i]? := by
  rw [h.2 _ (by omega), if_neg (by omega)]
theorem Turned.step {L M : List Nat} {i x y : Nat} (h : Turned L M i) (hi : i + i + 1 < L.length) (hx : L[i]? = some x) (hy : L[L.length - 1 - i]? = some y) : Turned L ((M.set i y).set (L.length - 1 - i) x) (i + 1) := by
  refine ⟨by simp [h.1], fun k hk => ?_⟩
  by_cases e1 : k = L.length - 1 - i
  · subst e1
    rw [List.getElem?_set_self (by simp [h.1]; omega), if_pos (by omega), show L.length - 1 - (L.length - 1 - i) = i by omega, hx]
  · rw [List.getElem?_set_ne (Ne.symm e1)]
    by_cases e2 : k = i
    · subst e2
      rw [List.getElem?_set_self (by rw [h.1]; omega), if_pos (by omega), hy]
    · rw [List.getElem?_set_ne (Ne.symm e2), h.2 k hk]
      by_cases e3 : k < i ∨ L.length < k + 1 + i
      · rw [if_pos e3, if_pos (by omega)]
      · rw [if_neg e3, if_neg (by omega)]
theorem Turned.done {L M : List Nat} {i : Nat} (h : Turned L M i) (hi : L.length ≤ i + i + 1) : M = L.reverse := by
  apply List.ext_getElem?
  intro k
  by_cases hk : k < L.length
  · rw [h.2 k hk, List.getElem?_reverse hk]
    by_cases e : k < i ∨ L.length < k + 1 + i
    · rw [if_pos e]
    · rw [if_neg e, show L.length - 1 - k = k by omega]
  · rw [List.getElem?_eq_none (by rw [h.1]; omega), List.getElem?_eq_none (by simp; omega)]
structure RevLoop (W : World) (l : List Thing) (g : Nat) (L : List Nat) (r : List Value) (vi vj : Value) (wr : World) : Prop where
  out : ∃ (i : Nat) (M : List Nat), i + i ≤ L.length ∧ vi = .int .i64 (i : Int) ∧ vj = .int .i64 ((L.length : Int) - 1 - i) ∧ Turned L M i ∧ Heap W (Cel g (pc M r) 33 :: l) wr
section
variable {W w : World} {l : List Thing}
set_option maxRecDepth 100000
set_option maxHeartbeats 2000000
theorem reverse_H (g n c : Nat) (L : List Nat) (r : List Value) (hl : L.length = n) (hn : n ≤ 1000000) (H : Heap W (Cel g (pc L r) 33 :: l) w) :
    Calls Try.prog 59 #[.slice (some ⟨g, 0, none⟩) n c] w fun e w' => e = .returned (.tuple #[]) ∧ Heap W (Cel g (pc L.reverse r) 33 :: l) w' := by
  subst hl
  go_enter Try.func59, Try.ntmps59
  go_wp2_with (go_skip)
  have H0 := H
  clear H
  go_loopw [2, 3] (fun vi vj wr => RevLoop W l g L r vi vj wr) (fun vi _ _ => L.length - (intOf vi).toNat)
  case atStart => exact ⟨0, L, Nat.zero_le _, rfl, by simp, Turned.start L, H0⟩
  case round =>
    obtain ⟨i, M, hi, rfl, rfl, hT, H'⟩ := hrel.out
    clear H0 hrel
    have H := H'
    clear H'
    by_cases hlt : i + i + 1 < L.length
    · obtain ⟨j, hj⟩ : ∃ j : Nat, j + i + 1 = L.length := ⟨L.length - 1 - i, by omega⟩
      have ej : L.length - 1 - i = j := by omega
      have h0 : i < L.length := by omega
      have h1 : j < L.length := by omega
      have hx : L[i]? = some L[i] := List.getElem?_eq_getElem h0
      have hy : L[j]? = some L[j] := List.getElem?_eq_getElem h1
      generalize L[i] = x at *
      generalize L[j] = y at *
      have HX := Lib.hid ((hT.low hlt).trans hx)
      have HY := Lib.hid (show M[j]? = some y by have := hT.high hlt; rw [ej] at this; exact this.trans hy)
      have HS := Lib.hid (show Turned L ((M.set i y).set j x) (i + 1) by have := hT.step hlt hx (by rw [ej]; exact hy); rw [ej] at this; exact this)
      have HM := Lib.hid hT.1
      clear hT hx hy ej
      have hj2 : (L.length : Int) - 1 - (i : Int) = (j : Int) := by omega
      rw [hj2]
      clear hj2
      have hn2 : j < L.length := h1
      go_wp2_with (go_skip)
      refine wp_region_E [13, 15] [0, 1, 2, 3, 4, 5, 6, 7, 8, 9, 10, 11, 12, 13, 14, 15] (fun _ => True) H (by kernel_rfl) (by kernel_rfl) ?_
      iterate 7 (apply wpE_step; (· rfl); (· rfl); (· rfl); (· exact Nat.le_of_ble_eq_true rfl); (· intro l0 _ w0 H0; (first | go_big_quiet_skip | go_big_quiet_step (fail)); (refine wpQuiet_nil ?_); (simp only [Array.getD_eq_getD_getElem?, List.getElem?_toArray, List.getElem?_cons_succ, List.getElem?_cons_zero, Option.getD_some]; rfl)); (simp only [Act.put, List.setIfInBounds_toArray, List.set_cons_zero, List.set_cons_succ]))
      (apply wpE_early; (· rfl); (· rfl); (· kernel_rfl); (· rfl); (· exact Nat.le_of_ble_eq_true rfl); (· intro w0 H0; (first | (with_reducible apply wpQ_loadCH); (· exact cell_party); (· rfl); (· rfl); (· exact List.mem_cons_self); (· exact pc_get HY.out); (simp only [Act.put, List.setIfInBounds_toArray, List.set_cons_zero, List.set_cons_succ])); (refine wpQuiet_nil ?_); (simp only [Array.getD_eq_getD_getElem?, List.getElem?_toArray, List.getElem?_cons_succ, List.getElem?_cons_zero, Option.getD_some]; rfl)); (simp only [Act.put, List.setIfInBounds_toArray, List.set_cons_zero, List.set_cons_succ]))
      iterate 3 (apply wpE_step; (· rfl); (· rfl); (· rfl); (· exact Nat.le_of_ble_eq_true rfl); (· intro l0 _ w0 H0; (first | go_big_quiet_skip | go_big_quiet_step (fail)); (refine wpQuiet_nil ?_); (simp only [Array.getD_eq_getD_getElem?, List.getElem?_toArray, List.getElem?_cons_succ, List.getElem?_cons_zero, Option.getD_some]; rfl)); (simp only [Act.put, List.setIfInBounds_toArray, List.set_cons_zero, List.set_cons_succ]))
      (apply wpE_early; (· rfl); (· rfl); (· kernel_rfl); (· rfl); (· exact Nat.le_of_ble_eq_true rfl); (· intro w0 H0; (first | (with_reducible apply wpQ_loadCH); (· exact cell_party); (· rfl); (· rfl); (· exact List.mem_cons_self); (· exact pc_get HX.out); (simp only [Act.put, List.setIfInBounds_toArray, List.set_cons_zero, List.set_cons_succ])); (refine wpQuiet_nil ?_); (simp only [Array.getD_eq_getD_getElem?, List.getElem?_toArray, List.getElem?_cons_succ, List.getElem?_cons_zero, Option.getD_some]; rfl)); (simp only [Act.put, List.setIfInBounds_toArray, List.set_cons_zero, List.set_cons_succ]))
      (apply wpE_step; (· rfl); (· rfl); (· rfl); (· exact Nat.le_of_ble_eq_true rfl); (· intro l0 _ w0 H0; (first | go_big_quiet_skip | go_big_quiet_step (fail)); (refine wpQuiet_nil ?_); (simp only [Array.getD_eq_getD_getElem?, List.getElem?_toArray, List.getElem?_cons_succ, List.getElem?_cons_zero, Option.getD_some]; rfl)); (simp only [Act.put, List.setIfInBounds_toArray, List.set_cons_zero, List.set_cons_succ]))
      ((with_reducible apply wpE_storeI); (· exact cell_party); (· rfl); (· rfl); (· rfl); (· rfl); (· rfl); (· (repeat (first | (with_reducible exact List.mem_cons_self) | with_reducible apply List.mem_cons_of_mem))); (· (rw [pc_sz, HM.out]; omega)); (· exact pc_set _ (by rw [HM.out]; exact h0)); (· (repeat (first | (with_reducible exact Repl.here) | with_reducible apply Repl.there))); (simp only [Act.put, List.setIfInBounds_toArray, List.set_cons_zero, List.set_cons_succ]))
      (apply wpE_step; (· rfl); (· rfl); (· rfl); (· exact Nat.le_of_ble_eq_true rfl); (· intro l0 _ w0 H0; (first | go_big_quiet_skip | go_big_quiet_step (fail)); (refine wpQuiet_nil ?_); (simp only [Array.getD_eq_getD_getElem?, List.getElem?_toArray, List.getElem?_cons_succ, List.getElem?_cons_zero, Option.getD_some]; rfl)); (simp only [Act.put, List.setIfInBounds_toArray, List.set_cons_zero, List.set_cons_succ]))
      ((with_reducible apply wpE_storeI); (· exact cell_party); (· rfl); (· rfl); (· rfl); (· rfl); (· rfl); (· (repeat (first | (with_reducible exact List.mem_cons_self) | with_reducible apply List.mem_cons_of_mem))); (· (rw [pc_sz, List.length_set, HM.out]; omega)); (· exact pc_set _ (by rw [List.length_set, HM.out]; exact h1)); (· (repeat (first | (with_reducible exact Repl.here) | with_reducible apply Repl.there))); (simp only [Act.put, List.setIfInBounds_toArray, List.set_cons_zero, List.set_cons_succ]))
      (refine wpE_nil ?_; clear H; intro _ H)
      go_wp2_with (go_skip)
      refine ⟨⟨i + 1, _, by omega, by go_num, ?_, HS.out, H⟩, ?measure⟩
      · congr 1; omega
      case measure => simp [intOf]; omega
    · have HS := Lib.hid (hT.done (by omega))
      clear hT
      go_wp2_with (go_skip)
      rw [← HS.out]
      exact ⟨rfl, .tuple #[], by simp [results, show Try.f59.results = #[] from rfl], rfl, H⟩
end
end Go.Proofs.Ytglehneaphigdaa

/- Shortest ways: plain laws, with no program in sight. -/
namespace Go.Proofs.Ytglehneaphigdaa
set_option linter.unusedVariables false
/-- Is p a step on from a, one nearer? -/
def GoodP (A : Nat → Nat → Bool) (d : Nat → Nat) (a p : Nat) : Prop := d p + 1 = d a ∧ A a p = true
/-- The least such party. -/
structure IsNext (A : Nat → Nat → Bool) (d : Nat → Nat) (a p : Nat) : Prop where
  ge : 1 ≤ p
  le : p ≤ 16
  good : GoodP A d a p
  least : ∀ q, 1 ≤ q → q < p → ¬ GoodP A d a q
theorem IsNext.eq {A : Nat → Nat → Bool} {d : Nat → Nat} {a p q : Nat} (h : IsNext A d a p) (g : IsNext A d a q) : p = q := by
  rcases Nat.lt_trichotomy p q with e | e | e
  · exact absurd h.good (g.least p h.ge e)
  · exact e
  · exact absurd g.good (h.least q g.ge e)
/-- Each is the one ahead of it's next one. -/
def Steps (A : Nat → Nat → Bool) (d : Nat → Nat) (L : List Nat) : Prop := ∀ i x y, L[i]? = some x → L[i + 1]? = some y → IsNext A d x y
theorem Steps.one (A : Nat → Nat → Bool) (d : Nat → Nat) (a : Nat) : Steps A d [a] := by
  intro i x y h1 h2
  simp at h2
theorem Steps.snoc {A : Nat → Nat → Bool} {d : Nat → Nat} {L : List Nat} {a k : Nat} (h : Steps A d L) (hl : L[L.length - 1]? = some a) (hk : IsNext A d a k) : Steps A d (L ++ [k]) := by
  intro i x y h1 h2
  by_cases hi : i + 1 < L.length
  · rw [List.getElem?_append_left (by omega)] at h1 h2
    exact h i x y h1 h2
  · have hlen : 0 < L.length := by
      rcases L with _ | ⟨b, L⟩
      · simp at hl
      · simp
    by_cases hj : i + 1 = L.length
    · rw [List.getElem?_append_left (by omega)] at h1
      rw [hj, List.getElem?_append_right (by omega)] at h2
      simp at h2
      rw [show L.length - 1 = i by omega, h1] at hl
      cases hl
      subst h2
      exact hk
    · rw [List.getElem?_eq_none (by simp; omega)] at h2
      cases h2
/-- A shortest way, in distances d to t. -/
structure Way (A : Nat → Nat → Bool) (d : Nat → Nat) (f t : Nat) (L : List Nat) : Prop where
  head : L[0]? = some f
  last : L[L.length - 1]? = some t
  len : L.length = d f + 1
  steps : Steps A d L
/-- What a way's beginning is. -/
structure WayTo (A : Nat → Nat → Bool) (d : Nat → Nat) (f a : Nat) (L : List Nat) : Prop where
  head : L[0]? = some f
  last : L[L.length - 1]? = some a
  len : L.length + d a = d f + 1
  steps : Steps A d L
theorem WayTo.start (A : Nat → Nat → Bool) (d : Nat → Nat) (f : Nat) : WayTo A d f f [f] := ⟨rfl, rfl, by simp; omega, Steps.one A d f⟩
theorem WayTo.snoc {A : Nat → Nat → Bool} {d : Nat → Nat} {f a k : Nat} {L : List Nat} (h : WayTo A d f a L) (hk : IsNext A d a k) : WayTo A d f k (L ++ [k]) := by
  have hlen : 0 < L.length := by
    rcases L with _ | ⟨b, L⟩
    · have := h.head; simp at this
    · simp
  refine ⟨?_, ?_, ?_, h.steps.snoc h.last hk⟩
  · rw [List.getElem?_append_left (by omega)]; exact h.head
  · simp
  · have := hk.good.1
    have := h.len
    simp
    omega
theorem WayTo.done {A : Nat → Nat → Bool} {d : Nat → Nat} {f t : Nat} {L : List Nat} (h : WayTo A d f t L) (ht : d t = 0) : Way A d f t L := ⟨h.head, h.last, by have := h.len; omega, h.steps⟩
/-- Two ways are one. -/
theorem Way.eq {A : Nat → Nat → Bool} {d : Nat → Nat} {f t : Nat} {L M : List Nat} (h : Way A d f t L) (g : Way A d f t M) : L = M := by
  have hl : L.length = M.length := by rw [h.len, g.len]
  have key : ∀ i, i < L.length → L[i]? = M[i]? := by
    intro i
    induction i with
    | zero => intro _; rw [h.head, g.head]
    | succ i ih =>
      intro hi
      have e := ih (by omega)
      have h1 : ∃ x, L[i]? = some x := ⟨L[i], List.getElem?_eq_getElem (by omega)⟩
      have h2 : ∃ x, L[i + 1]? = some x := ⟨L[i + 1], List.getElem?_eq_getElem hi⟩
      have h3 : ∃ x, M[i + 1]? = some x := ⟨M[i + 1], List.getElem?_eq_getElem (by omega)⟩
      obtain ⟨x, hx⟩ := h1
      obtain ⟨y, hy⟩ := h2
      obtain ⟨z, hz⟩ := h3
      rw [hy, hz, (h.steps i x y hx hy).eq (g.steps i x z (by rw [← e]; exact hx) hz)]
  apply List.ext_getElem?
  intro i
  by_cases hi : i < L.length
  · exact key i hi
  · rw [List.getElem?_eq_none (by omega), List.getElem?_eq_none (by omega)]
/-- A next one there is, while the end is not reached. -/
theorem IsDist.next {A : Nat → Nat → Bool} {t a : Nat} {d : Nat → Nat} (h : IsDist A t d) (ha : d a < 17) (hne : a ≠ t) : ¬ ∀ q, 1 ≤ q → q < 17 → ¬ GoodP A d a q := by
  intro hn
  obtain ⟨q, hA, hq⟩ := h.par a ha hne
  have := h.ins q (by omega)
  exact hn q this.1 (by omega) ⟨hq, hA⟩
theorem IsDist.zero {A : Nat → Nat → Bool} {t a : Nat} {d : Nat → Nat} (h : IsDist A t d) (ha : d a = 0) : a = t := by
  apply Classical.byContradiction
  intro hne
  obtain ⟨q, hA, hq⟩ := h.par a (by omega) hne
  omega
end Go.Proofs.Ytglehneaphigdaa

/- paths.Short: the shortest way. -/
namespace Go.Proofs.Ytglehneaphigdaa
open Go.RowKit
set_option linter.unusedSimpArgs false
set_option linter.unusedVariables false
abbrev partyZ : Value := .int .u8 0
theorem made_len (m : Nat) (v : Value) : ((madeCells partyZ.cells (m * 1)).setIfInBounds 0 v).size = m := by rw [Array.size_setIfInBounds, size_madeCells, Nat.mul_one]
theorem made_head {m : Nat} (h : 1 ≤ m) (v : Value) : ((madeCells partyZ.cells (m * 1)).setIfInBounds 0 v).toList.take (1 * 1) = [v] := by
  have hs := made_len m v
  have h0 : ((madeCells partyZ.cells (m * 1)).setIfInBounds 0 v).toList[0]? = some v := by
    rw [Array.getElem?_toList, Array.getElem?_setIfInBounds_self_of_lt]
    rw [size_madeCells]; omega
  cases hl : ((madeCells partyZ.cells (m * 1)).setIfInBounds 0 v).toList with
  | nil => rw [hl] at h0; simp at h0
  | cons x xs => rw [hl] at h0; simp at h0; simp [h0]
/-- The chapter's shortest way. -/
def IsShort (c : Caps) (f t : Nat) (L : List Nat) : Prop :=
  (L = [] ∧ (mayP f = false ∨ mayP t = false ∨ f = t ∨ ∃ d, IsDist (edge c) t d ∧ d f = 17)) ∨ (mayP f = true ∧ mayP t = true ∧ f ≠ t ∧ ∃ d, IsDist (edge c) t d ∧ d f < 17 ∧ Way (edge c) d f t L)
def ShortPost (W : World) (l : List Thing) (c : Caps) (f t : Nat) (e : Ending) (w' : World) : Prop := ∃ v L, e = .returned v ∧ IsShort c f t L ∧ Heap W (OwnT 33 1 v L.length (L.map pv) :: l) w'
/-- Of the way what is found. -/
structure ShortOut (W : World) (l : List Thing) (c : Caps) (f t pd : Nat) (d : Nat → Nat) (m : Nat) (v i : Value) (w2 : World) : Prop where
  out : ∃ a L, i = .int .u8 ((a : Nat) : Int) ∧ d a < 17 ∧ d a ≤ m ∧ WayTo (edge c) d f a L ∧ Heap W (OwnT 33 1 v L.length (L.map pv) :: Cel pd (dist17 d) 74 :: l) w2
/-- Who is not the next one. -/
structure ShortIn (W : World) (l' : List Thing) (c : Caps) (a : Nat) (d : Nat → Nat) (i j : Value) (w2 : World) : Prop where
  out : ∃ k : Nat, i = .int .u8 ((a : Nat) : Int) ∧ j = .int .u8 (k : Int) ∧ 1 ≤ k ∧ k ≤ 17 ∧ (∀ q, 1 ≤ q → q < k → ¬ GoodP (edge c) d a q) ∧ Heap W l' w2
section
variable {W w : World} {l : List Thing} {gv : Value} {c : Caps}
set_option maxRecDepth 100000
set_option maxHeartbeats 2000000
theorem may6 (a : Nat) (h : a ≤ 255) : Ans 57 #[.int .u8 (a : Int)] (.bool (mayP a)) := by
  intro w
  unfold mayP
  by_cases h1 : 1 ≤ a
  · by_cases h2 : a ≤ 16
    all_goals
      go_enter Try.func57, Try.ntmps57
      go_wp2_with fail
      go_ret
      exact ⟨by simp [h1, h2]; omega, (by repeat (first | exact Ext.refl _ | refine Ext.alloc ?_ _ | refine Ext.ext ?_ _ | refine Ext.drew ?_))⟩
  · go_enter Try.func57, Try.ntmps57
    go_wp2_with fail
    go_ret
    exact ⟨by simp [h1], (by repeat (first | exact Ext.refl _ | refine Ext.alloc ?_ _ | refine Ext.ext ?_ _ | refine Ext.drew ?_))⟩
theorem short_not (f t : Nat) (hf : f ≤ 255) (ht : t ≤ 255) (hn : mayP f = false ∨ mayP t = false ∨ f = t) : AnsH W l 40 #[gv, .int .u8 (f : Int), .int .u8 (t : Int)] (.slice none 0 0) := by
  intro w H
  have Mf := may6 f hf
  have Mt := may6 t ht
  by_cases h1 : mayP f = true
  · rw [h1] at Mf
    by_cases h2 : mayP t = true
    · rw [h2] at Mt
      obtain rfl : f = t := by
        rcases hn with h | h | h
        · rw [h1] at h; cases h
        · rw [h2] at h; cases h
        · exact h
      clear h1 h2 hn
      go_enter Try.func40, Try.ntmps40
      go_wp2_with (first | go_skip | ((with_reducible refine Ans.callH (by assumption) H ?_); clear H; intro _ H))
      go_ret
      exact ⟨rfl, H⟩
    · have h2 : mayP t = false := by simpa using h2
      rw [h2] at Mt
      clear h1 h2 hn
      go_enter Try.func40, Try.ntmps40
      go_wp2_with (first | go_skip | ((with_reducible refine Ans.callH (by assumption) H ?_); clear H; intro _ H))
      go_ret
      exact ⟨rfl, H⟩
  · have h1 : mayP f = false := by simpa using h1
    rw [h1] at Mf
    clear h1 hn
    go_enter Try.func40, Try.ntmps40
    go_wp2_with (first | go_skip | ((with_reducible refine Ans.callH (by assumption) H ?_); clear H; intro _ H))
    go_ret
    exact ⟨rfl, H⟩
theorem short_H (f t : Nat) (hf : f ≤ 255) (ht : t ≤ 255) (h : CapsOf W l gv c) (H : Heap W l w) : Calls Try.prog 40 #[gv, .int .u8 (f : Int), .int .u8 (t : Int)] w (ShortPost W l c f t) := by
  by_cases hn : mayP f = false ∨ mayP t = false ∨ f = t
  · refine (short_not f t hf ht hn w H).mono ?_
    rintro e w1 ⟨rfl, H⟩
    refine ⟨_, [], rfl, .inl ⟨rfl, ?_⟩, (H.nilRow _ _).slide⟩
    rcases hn with h | h | h
    · exact .inl h
    · exact .inr (.inl h)
    · exact .inr (.inr (.inl h))
  · have hmf : mayP f = true := by
      cases e : mayP f
      · exact absurd (.inl e) hn
      · rfl
    have hmt : mayP t = true := by
      cases e : mayP t
      · exact absurd (.inr (.inl e)) hn
      · rfl
    have hne : f ≠ t := fun e => hn (.inr (.inr e))
    have Mf := may6 f hf
    have Mt := may6 t ht
    rw [hmf] at Mf
    rw [hmt] at Mt
    have hf17 := mayP_true hmf
    have ht17 := mayP_true hmt
    have hfl : f < 17 := by omega
    have E := Lib.hid (show mayP f = true ∧ mayP t = true from ⟨hmf, hmt⟩)
    have hne2 : ((f : Int) == (t : Int)) = false := by simp; omega
    have hne3 : decide ((f : Int) = (t : Int)) = false := by simp; omega
    clear hn hmf hmt
    by_cases hr : ∀ d, IsDist (edge c) t d → d f = 17
    · have hr2 : ∀ d, IsDist (edge c) t d → d f = 17 ∧ ((d f : Int) == 17) = true ∧ decide ((d f : Int) = 17) = true := fun d hd => by rw [hr d hd]; exact ⟨rfl, rfl, rfl⟩
      clear hr
      go_enter Try.func40, Try.ntmps40
      go_wp2_with (first
        | go_skip
        | ((with_reducible refine Ans.callH (by assumption) H ?_); clear H; intro _ H)
        | ((with_reducible refine (hops_H t ht17.1 ht17.2 h H).mono ?_); clear H; rintro _ _ ⟨d, hdist, rfl, H⟩; (obtain ⟨r1, r2, r3⟩ := hr2 d hdist); clear hr2)
        | ((with_reducible show wpList _ _ _ (_ :: _) _ _); (with_reducible apply wpl_allocRH row_17i); (· rfl); (· exact H); (clear H; intro pd _ H); (simp only [Act.put, List.setIfInBounds_toArray, List.set_cons_zero, List.set_cons_succ]))
        | ((with_reducible show wpList _ _ _ (_ :: _) _ _); (with_reducible apply wpl_storeRH row_17i); (· rfl); (· rfl); (· rfl); (· with_reducible exact dist17_cells ..); (· exact H); (· (repeat (first | (with_reducible exact List.mem_cons_self) | with_reducible apply List.mem_cons_of_mem))); (· (simp only [row17_sz, Nat.reduceAdd, Nat.reduceLeDiff, Nat.le_refl]; done)); (· with_reducible exact dist17_splice ..); (· (repeat (first | (with_reducible exact Repl.here) | with_reducible apply Repl.there))); (clear H; intro _ H); (simp only [Act.put, List.setIfInBounds_toArray, List.set_cons_zero, List.set_cons_succ]))
        | ((with_reducible show wpList _ _ _ (_ :: _) _ _); (with_reducible apply wpl_loadCH); (· exact cell_int); (· rfl); (· rfl); (· exact H); (· (repeat (first | (with_reducible exact List.mem_cons_self) | with_reducible apply List.mem_cons_of_mem))); (· exact dist17_get _ hfl); (simp only [Act.put, List.setIfInBounds_toArray, List.set_cons_zero, List.set_cons_succ])))
      go_ret
      exact ⟨_, [], rfl, .inl ⟨rfl, .inr (.inr (.inr ⟨d, hdist, r1⟩))⟩, (H.tail.nilRow _ _).slide⟩
    · have hr2 : ∀ d, IsDist (edge c) t d → d f < 17 ∧ ((d f : Int) == 17) = false ∧ decide ((d f : Int) = 17) = false := fun d hd => by
        have h1 : d f ≠ 17 := fun e => hr fun d' hd' => by rw [hd'.eq hd f]; exact e
        have h2 := hd.le f
        refine ⟨by omega, ?_, ?_⟩ <;> simp <;> omega
      clear hr
      go_enter Try.func40, Try.ntmps40
      go_wp2_with (first
        | go_skip
        | ((with_reducible refine Ans.callH (by assumption) H ?_); clear H; intro _ H)
        | ((with_reducible refine (hops_H t ht17.1 ht17.2 h H).mono ?_); clear H; rintro _ _ ⟨d, hdist, rfl, H⟩; (obtain ⟨r1, r2, r3⟩ := hr2 d hdist); clear hr2)
        | ((with_reducible show wpList _ _ _ (_ :: _) _ _); (with_reducible apply wpl_allocRH row_17i); (· rfl); (· exact H); (clear H; intro pd _ H); (simp only [Act.put, List.setIfInBounds_toArray, List.set_cons_zero, List.set_cons_succ]))
        | ((with_reducible show wpList _ _ _ (_ :: _) _ _); (with_reducible apply wpl_storeRH row_17i); (· rfl); (· rfl); (· rfl); (· with_reducible exact dist17_cells ..); (· exact H); (· (repeat (first | (with_reducible exact List.mem_cons_self) | with_reducible apply List.mem_cons_of_mem))); (· (simp only [row17_sz, Nat.reduceAdd, Nat.reduceLeDiff, Nat.le_refl]; done)); (· with_reducible exact dist17_splice ..); (· (repeat (first | (with_reducible exact Repl.here) | with_reducible apply Repl.there))); (clear H; intro _ H); (simp only [Act.put, List.setIfInBounds_toArray, List.set_cons_zero, List.set_cons_succ]))
        | ((with_reducible show wpList _ _ _ (_ :: _) _ _); (with_reducible apply wpl_loadCH); (· exact cell_int); (· rfl); (· rfl); (· exact H); (· (repeat (first | (with_reducible exact List.mem_cons_self) | with_reducible apply List.mem_cons_of_mem))); (· exact dist17_get _ hfl); (simp only [Act.put, List.setIfInBounds_toArray, List.set_cons_zero, List.set_cons_succ]))
        | ((with_reducible show wpList _ _ _ (_ :: _) _ _); (with_reducible apply wpl_makeC slP (n := 1) (m := d f + 1)); (· rfl); (· rfl); (· rfl); (· rfl); (· omega); (· omega); (· omega); (· exact H); (clear H; intro pm _ H); (simp only [Act.put, List.setIfInBounds_toArray, List.set_cons_zero, List.set_cons_succ]))
        | ((with_reducible show wpList _ _ _ (_ :: _) _ _); (with_reducible apply wpl_storeIH); (· exact cell_party); (· rfl); (· rfl); (· rfl); (· exact H); (· (repeat (first | (with_reducible exact List.mem_cons_self) | with_reducible apply List.mem_cons_of_mem))); (· (rw [size_madeCells]; omega)); (· rfl); (· (repeat (first | (with_reducible exact Repl.here) | with_reducible apply Repl.there))); (clear H; intro _ H); (simp only [Act.put, List.setIfInBounds_toArray, List.set_cons_zero, List.set_cons_succ])))
      have H0 := H.celOwnP (size := 1) (n := 1) (m := d f + 1) (by rw [made_len]; omega) (by omega) (by unfold maxLen; omega)
      clear H
      rw [made_head (by omega)] at H0
      go_loopg [8, 9] (d f) (fun m v i w2 => ShortOut W l c f t pd d m v i w2)
      case atStart => exact ⟨f, [f], rfl, r1, Nat.le_refl _, WayTo.start .., H0⟩
      case round =>
        obtain ⟨a, L, rfl, had, ham, hway, H'⟩ := hrel.out
        clear H0 hrel
        have H := H'
        clear H'
        have hain := hdist.ins a had
        have hLl := Lib.hid hway.len
        by_cases hat : a = t
        · subst hat
          go_wp2_with (go_skip)
          go_ret
          exact ⟨_, L, rfl, .inr ⟨E.out.1, E.out.2, hne, d, hdist, r1, hway.done hdist.top⟩, H.drop (.there .here)⟩
        · have e1 : ((a : Int) == (t : Int)) = false := by simp; omega
          have e2 : decide ((a : Int) = (t : Int)) = false := by simp; omega
          have e3 : ((a : Int) != (t : Int)) = true := by simp; omega
          have hnx := hdist.next had hat
          go_wp2_with (go_skip)
          have H0 := H
          clear H
          go_loopw [9, 10] (fun i j w2 => ShortIn W (OwnT 33 1 u8 L.length (L.map pv) :: Cel pd (dist17 d) 74 :: l) c a d i j w2) (fun _ j _ => 17 - (intOf j).toNat)
          case atStart => exact ⟨1, rfl, rfl, by omega, by omega, (fun q h1 h2 => by omega), H0⟩
          case round =>
            obtain ⟨k, rfl, rfl, hk1, hk17, hno, H'⟩ := hrel.out
            clear H0 hrel
            have H := H'
            clear H'
            by_cases hlt : k < 17
            · have hka : k ≤ 255 := by omega
              have haa : a ≤ 255 := by omega
              have ha17 : a < 17 := by omega
              have hdk := hdist.le k
              have hz : d a ≠ 0 := fun e => hat (hdist.zero e)
              have hw1 : wrap64 ((d a : Int) - 1) = (d a : Int) - 1 := IntWalk.wrap64_in _ ⟨by omega, by omega⟩
              have hcap := h (OwnT 33 1 u8 L.length (L.map pv) :: Cel pd (dist17 d) 74 :: l) a k (fun x hx => List.mem_cons_of_mem _ (List.mem_cons_of_mem _ hx)) haa hka
              by_cases hg : d k + 1 = d a
              · have g1 : ((d k : Int) == (d a : Int) - 1) = true := by simp; omega
                have g2 : decide ((d k : Int) = (d a : Int) - 1) = true := by simp; omega
                by_cases hA : 0 < capOf c a k
                · have c1 : decide (capOf c a k > 0) = true := by simpa using hA
                  have HN := Lib.hid (⟨hk1, by omega, ⟨hg, edge_yes hA⟩, hno⟩ : IsNext (edge c) d a k)
                  have hLb : L.length + 1 ≤ maxLen := by have := hLl.out; unfold maxLen; omega
                  have hLb2 : (L.length + 1) * 1 ≤ 140737488355328 := by have := hLl.out; omega
                  have HG := Lib.hid hg
                  clear hno hnx hg
                  go_wp2_with (go_skip)
                  refine wp_region_H H (by kernel_rfl) (by kernel_rfl) ?_
                  repeat (first | go_big_quiet_skip | ((with_reducible apply wpQ_loadCH); (· exact cell_int); (· rfl); (· rfl); (· (repeat (first | (with_reducible exact List.mem_cons_self) | with_reducible apply List.mem_cons_of_mem))); (· (first | exact dist17_get _ hlt | exact dist17_get _ ha17)); (simp only [Act.put, List.setIfInBounds_toArray, List.set_cons_zero, List.set_cons_succ])) | go_big_quiet_step (exact hcap.quiet))
                  refine wpQuiet_nil ?_
                  clear H
                  intro _ H
                  go_wp2_with (first
                    | go_skip
                    | ((with_reducible show wpList _ _ _ (_ :: _) _ _); (with_reducible apply wpl_bsOnes _ [.int .u8 (k : Int)]); (· rfl); (· rfl); (· rfl); (· decide); (· decide); (· exact pv_ones k); (· exact bs_party); (· rfl); (· exact H); (clear H; intro pk _ H); (simp only [Act.put, List.setIfInBounds_toArray, List.set_cons_zero, List.set_cons_succ]))
                    | ((with_reducible show wpList _ _ _ (_ :: _) _ _); (with_reducible apply wpl_appendO slP); (· rfl); (· rfl); (· rfl); (· rfl); (· exact H.perm (.swap _ _ _)); (· exact H.celRd List.mem_cons_self); (· rfl); (· exact pv_one k); (· exact hLb); (· exact hLb2); (clear H; intro v2 _ H); (simp only [Act.put, List.setIfInBounds_toArray, List.set_cons_zero, List.set_cons_succ])))
                  go_roundg (d k)
                  case measure => have := HG.out; omega
                  case rel =>
                    refine ⟨k, L ++ [k], rfl, by have := HG.out; omega, Nat.le_refl _, hway.snoc HN.out, ?_⟩
                    rw [List.length_append, List.map_append]
                    exact H.drop (.there .here)
                · have c1 : decide (capOf c a k > 0) = false := by simpa using hA
                  have HN := Lib.hid (show ∀ q, 1 ≤ q → q < k + 1 → ¬ GoodP (edge c) d a q from fun q h1 h2 => by
                    by_cases e : q = k
                    · subst e; intro hG; have h2 := hG.2; rw [edge_no hA] at h2; cases h2
                    · exact hno q h1 (by omega))
                  clear hno hnx hg
                  go_wp2_with (go_skip)
                  refine wp_region_H H (by kernel_rfl) (by kernel_rfl) ?_
                  repeat (first | go_big_quiet_skip | ((with_reducible apply wpQ_loadCH); (· exact cell_int); (· rfl); (· rfl); (· (repeat (first | (with_reducible exact List.mem_cons_self) | with_reducible apply List.mem_cons_of_mem))); (· (first | exact dist17_get _ hlt | exact dist17_get _ ha17)); (simp only [Act.put, List.setIfInBounds_toArray, List.set_cons_zero, List.set_cons_succ])) | go_big_quiet_step (exact hcap.quiet))
                  refine wpQuiet_nil ?_
                  clear H
                  intro _ H
                  go_wp2_with (go_skip)
                  refine ⟨?_, ?measure⟩
                  · exact ⟨⟨k + 1, rfl, by go_num, by omega, by omega, HN.out, H⟩⟩
                  case measure => simp [intOf]; omega
              · have g1 : ((d k : Int) == (d a : Int) - 1) = false := by simp; omega
                have g2 : decide ((d k : Int) = (d a : Int) - 1) = false := by simp; omega
                have HN := Lib.hid (show ∀ q, 1 ≤ q → q < k + 1 → ¬ GoodP (edge c) d a q from fun q h1 h2 => by
                  by_cases e : q = k
                  · subst e; intro hG; exact hg hG.1
                  · exact hno q h1 (by omega))
                clear hno hnx hg
                go_wp2_with (go_skip)
                refine wp_region_H H (by kernel_rfl) (by kernel_rfl) ?_
                repeat (first | go_big_quiet_skip | ((with_reducible apply wpQ_loadCH); (· exact cell_int); (· rfl); (· rfl); (· (repeat (first | (with_reducible exact List.mem_cons_self) | with_reducible apply List.mem_cons_of_mem))); (· (first | exact dist17_get _ hlt | exact dist17_get _ ha17)); (simp only [Act.put, List.setIfInBounds_toArray, List.set_cons_zero, List.set_cons_succ])) | go_big_quiet_step (exact hcap.quiet))
                refine wpQuiet_nil ?_
                clear H
                intro _ H
                go_wp2_with (go_skip)
                refine ⟨?_, ?measure⟩
                · exact ⟨⟨k + 1, rfl, by go_num, by omega, by omega, HN.out, H⟩⟩
                case measure => simp [intOf]; omega
            · exact absurd (fun q h1 h2 => hno q h1 (by omega)) hnx
end
end Go.Proofs.Ytglehneaphigdaa

/- clear of a slice; []T{}. -/
namespace Go.Proofs.Ytglehneaphigdaa
open Go.RowKit
set_option linter.unusedSimpArgs false
set_option linter.unusedVariables false
section
variable {ops : Array Oper} {rest : List Oper} {o : Oper} {a : Act} {w W : World} {l : List Thing} {Q : Exit → Act → World → Prop}
theorem wpl_clearC {t e size bytes : Nat} {z : Value} (T : SlTy Try.prog t e size bytes z) (hz1 : ∀ u ∈ z.cells, u.oneCell' = true) (hgd : o.guard = none) {x : Operand}
    (ho : o.op = .call { callee := .builtin .clear, args := #[x], argTypes := #[t] }) {g off n c e' : Nat} (hx : a.eval x = .slice (some ⟨g, off, none⟩) n c)
    {cur : Array Value} (H : Heap W (Cel g cur e' :: l) w) (hfit : off + n * size ≤ cur.size)
    (h : ∀ c1 w', c1.size = cur.size → c1.toList.take off = cur.toList.take off → Heap W (Cel g c1 e' :: l) w' → wpList Try.prog ops Q rest (a.put o.dst (.tuple #[])) w') : wpList Try.prog ops Q (o :: rest) a w := by
  refine wpList_plain hgd fun K hK => ?_
  have hg := H.blk List.mem_cons_self
  obtain ⟨i, hi, hz, hsi, hbi⟩ := T.inf
  have r2 : ∀ w, (zeroValue e).run Try.prog w = .ok z w := fun w => by simp [zeroValue, typeInfo, hi, hz, go_sem]
  rcases n with _ | n
  · have hr : (Builtin.clear_ #[t] o.type #[.slice (some ⟨g, off, none⟩) 0 c]).run Try.prog w = .ok (.tuple #[]) w := by
      simp [Builtin.clear_, run_underlying T.und]
    unfold Oper.wp execOp
    simp only [ho, resolve, invoke, builtin, Sem.run_bind, Sem.run_pure, Result.andThen_ok, List.map_toArray, List.map_cons, List.map_nil, hx, hr]
    exact hK _ _ (h _ _ rfl rfl H)
  · have hs : (Builtin.zeroCells z.cells (n + 1)).size = (n + 1) * size := by simp [Builtin.zeroCells, T.zc]
    have h1 : ∀ v ∈ (Builtin.zeroCells z.cells (n + 1)).toList, v.oneCell' = true := by
      intro v hv
      simp only [Builtin.zeroCells, Array.toList_map, Array.toList_range, List.mem_map, List.mem_range] at hv
      obtain ⟨j, hj, rfl⟩ := hv
      have hp : 0 < z.cells.size := by rw [T.zc]; exact T.pos
      have hlt : j % z.cells.size < z.cells.size := Nat.mod_lt _ hp
      rw [getElem!_pos z.cells _ hlt]
      exact hz1 _ (Array.getElem_mem hlt)
    have hst := run_storeCells_at Try.prog g off e' (Builtin.zeroCells z.cells (n + 1)).toList 0 cur w hg (by simp [hs]; exact hfit) h1
    simp only [Nat.add_zero] at hst
    have hr : (Builtin.clear_ #[t] o.type #[.slice (some ⟨g, off, none⟩) (n + 1) c]).run Try.prog w = .ok (.tuple #[]) (w.setRow g (cur.toList.take off ++ (Builtin.zeroCells z.cells (n + 1)).toList ++ cur.toList.drop (off + (Builtin.zeroCells z.cells (n + 1)).toList.length)).toArray) := by
      simp only [Builtin.clear_]
      simp [run_underlying T.und, r2, hst]
    unfold Oper.wp execOp
    simp only [ho, resolve, invoke, builtin, Sem.run_bind, Sem.run_pure, Result.andThen_ok, List.map_toArray, List.map_cons, List.map_nil, hx, hr]
    refine hK _ _ (h _ _ ?_ ?_ (H.head ⟨rfl, rfl, rfl, by simp, fun k _ hk => setRow_other w g k _ (fun e => hk (by show some k = some g; rw [e]))⟩ (setRow_heap w g cur _ e' _ hg) (.inl rfl)))
    · simp [hs]; omega
    · have hA : (cur.toList.take off).length = off := by simp; omega
      simp only [List.append_assoc]
      rw [List.take_append_of_le_length (by rw [hA]; exact Nat.le_refl _), List.take_of_length_le (by rw [hA]; exact Nat.le_refl _)]
theorem wpl_bs0 {dst : Option Tmp} {ty : TypeId} {pos : String} {after : Array Edge} {guard : Option (Nat × Bool)} {t e : Nat} (hw : Region.wanted ⟨dst, .buildSlice t 0 #[], ty, pos, after, guard⟩ (yielded ops a.tmps) = true)
    {size bytes : Nat} {z : Value} (T : SlTy Try.prog t e size bytes z) (H : Heap W l w)
    (h : ∀ p w', Heap W (Cel p #[] e :: l) w' → wpList Try.prog ops Q rest (a.put dst (.slice (some ⟨p, 0, none⟩) 0 0)) w') : wpList Try.prog ops Q (⟨dst, .buildSlice t 0 #[], ty, pos, after, guard⟩ :: rest) a w := by
  obtain ⟨i, hi, hz, hsi, hbi⟩ := T.inf
  have r1 : ∀ w, (sizeOf e).run Try.prog w = .ok i.size w := fun w => by simp [sizeOf, typeInfo, hi, go_sem]
  have r2 : ∀ w, (zeroValue e).run Try.prog w = .ok z w := fun w => by simp [zeroValue, typeInfo, hi, hz, go_sem]
  refine BigFrame.wpList_want hw fun K hK => ?_
  have hrun : (Instr.buildSlice t 0 (#[].map fun ((i, x) : Nat × Operand) => (i, a.eval x))).run Try.prog w = .ok (.slice (some ⟨w.heap.size, 0, none⟩) 0 0) (w.alloc (.cells #[] e)) := by
    unfold Instr.buildSlice
    rw [Sem.run_bind, run_underlying T.und]
    simp only [Result.andThen_ok]
    rw [Sem.run_bind, r1]
    simp only [Result.andThen_ok]
    simp [Sem.run_bind, r2, newRow, go_sem, Instr.fill]
  unfold Oper.wp execOp
  simp only [Sem.run_bind, hrun, Result.andThen_ok, Sem.run_pure]
  exact hK _ _ (h _ _ (H.alloc _ _))
end
end Go.Proofs.Ytglehneaphigdaa
