/- Part 4 of what several laws stand on: HeapLoud, HeapCalls, Full, Rnd1, Once, Party. -/
import Derived.Test.YtgobnamhdkbbeaaNetGPart3
/- Loud operations in a region that draws: a slice literal of one row, an append. -/
namespace Go.Proofs.Ytgobnamhdkbbeaa
open Go.RowKit
set_option linter.unusedVariables false
section
variable {W : World} {G : List Thing → Prop} {loud : List Nat} {K : List Thing → Act → Prop} {l r : List Thing} {a : Act} {lo : List Oper} {ks : List Nat} {k : Nat} {dst : Option Tmp} {ty : TypeId} {pos : String} {after : Array Edge}
theorem wpO_bsR {x : Operand} {t e : TypeId} {c zs : Array Value} (ho : lo[k]? = some ⟨dst, .buildSlice t 1 #[(0, x)], ty, pos, after, none⟩) (hk : loud.contains k = true) (hx : a.eval x = .agg c)
    (hT : Try.prog.underlying t = some (.slice e) ∧ (Try.prog.info? e).map (fun i => (i.size, i.zero.map Value.cells)) = some (zs.size, some zs) ∧ 0 < zs.size ∧ zs.size ≤ 65536) (hv : c.size = zs.size)
    (hG : ∀ p, G (Cel p c e :: l)) (h : ∀ p, wpO Try.prog lo.toArray W G loud K ks (Cel p c e :: l) (a.put dst (.slice (some ⟨p, 0, none⟩) 1 1))) : wpO Try.prog lo.toArray W G loud K (k :: ks) l a := by
  refine wpO_loud ho hk ⟨rfl, fun w H => ⟨_, _, _, .inl ?_, H.alloc c e, hG _, h _⟩⟩
  unfold execOp
  simp only [List.map_toArray, List.map_cons, List.map_nil, hx, Sem.run_bind, run_buildSlice1 hT.1 hT.2.1 hT.2.2.1 hT.2.2.2 (.agg c) hv, Result.andThen_ok, Sem.run_pure]
  rfl
theorem wpO_append {t e size bytes : Nat} {z : Value} (T : SlTy Try.prog t e size bytes z) {s x : Operand} (ho : lo[k]? = some ⟨dst, .call { callee := .builtin .append, args := #[s, x], argTypes := #[t, t] }, ty, pos, after, none⟩) (hk : loud.contains k = true)
    {v : Value} {b m c n : Nat} {xs news : List Value} {cc : Array Value} {te : TypeId} (hs : a.eval s = v) (hx : a.eval x = .slice (some ⟨b, 0, none⟩) m c) (pl : Pull l (RowT e size v n xs) r) (mb : Cel b cc te ∈ l) (hnews : cc.toList = news)
    (hl : news.length = m * size) (h1 : OneCells news) (h63 : n + m ≤ maxLen) (hbytes : (n + m) * bytes ≤ 140737488355328)
    (hG : ∀ v', G (RowT e size v' (n + m) (xs ++ news) :: r)) (h : ∀ v', wpO Try.prog lo.toArray W G loud K ks (RowT e size v' (n + m) (xs ++ news) :: r) (a.put dst v')) : wpO Try.prog lo.toArray W G loud K (k :: ks) l a := by
  refine wpO_loud ho hk ⟨rfl, fun w H => ?_⟩
  have H2 := H.pull pl
  have hown : w.ownsRow 0 e size v n xs := H2.ok _ List.mem_cons_self
  have hrd := H.celRd mb
  rw [hnews] at hrd
  obtain ⟨i, hi, hz, hsz, hb⟩ := T.inf
  have hnw := hrd.addr
  obtain ⟨v1, w1, hr1, hbl⟩ := run_append_block w T ty 0 v n xs hown ⟨b, 0, none⟩ m c news hl hnw h1 h63 hbytes
  obtain ⟨v', w', hr, h2, h3, h4⟩ := run_append_own (P := Try.prog) w 0 t ty e i z size bytes T.und hi hz hsz hb T.zc T.pos v n xs hown ⟨b, 0, none⟩ m c news hl hnw h1 h63 hbytes (Nat.zero_le _)
  rw [hr1] at hr
  simp only [Result.ok.injEq] at hr
  obtain ⟨rfl, rfl⟩ := hr
  refine ⟨_, v1, w1, .inl ?_, H2.head h3 h2 ?_, hG _, h _⟩
  · unfold execOp
    simp only [resolve, invoke, builtin, Sem.run_bind, Sem.run_pure, Result.andThen_ok, List.map_toArray, List.map_cons, List.map_nil, hs, hx, hr1]
  · rcases hbl with hbl | hbl
    · exact .inl hbl
    · refine .inr fun j hj => ?_
      have h5 := ownsRow_fp h2 j hj
      have hj' : v1.ownBlock = some j := hj
      rw [hbl] at hj'
      cases hj'
      exact ⟨Nat.le_refl _, h5.2⟩
end
end Go.Proofs.Ytgobnamhdkbbeaa

/- A region that draws its order, over a memory of things, with loud operations in one order: stores, makes, and calls that make or change things. A quiet operation must yield the same while some things stay ('base', a list that may grow behind a loud one): one walk in an order of one's own serves every order. -/
namespace Go.Proofs.Ytgobnamhdkbbeaa
open Go.RowKit
set_option linter.unusedVariables false
def Keeps (base l : List Thing) : Prop := ∀ t, t ∈ base → t ∈ l
section
variable {P : Program} {ops : Array Oper} {md : Region.Mode} {W : World}
def YieldsK (P : Program) (ops : Array Oper) (W : World) (base : List Thing) (o : Oper) (v : Value) (a : Act) : Prop := ∀ l, Keeps base l → ∀ (w : World) (H : Heap W l w), YieldsIn P ops (fun w' => ∃ d, w' = H.any d) o v a
theorem YieldsK.of_same {base : List Thing} {o : Oper} {v : Value} {a a' : Act} (hy : YieldsK P ops W base o v a) (he : execOp a'.eval o = execOp a.eval o)
    (hw : Region.wanted o (yielded ops a'.tmps) = Region.wanted o (yielded ops a.tmps)) : YieldsK P ops W base o v a' := fun l hl w H => (hy l hl w H).of_same he hw
theorem YieldsK.more {base base' : List Thing} {o : Oper} {v : Value} {a : Act} (hy : YieldsK P ops W base o v a) (h : Keeps base base') : YieldsK P ops W base' o v a := fun l hl w H => hy l (fun t ht => hl t (h t ht)) w H
def LoudK (P : Program) (ops : Array Oper) (W : World) (o : Oper) (l : List Thing) (a : Act) (k : List Thing → Value → Prop) : Prop :=
  Region.wanted o (yielded ops a.tmps) = true ∧ ∀ w, Heap W l w →
    (∃ l' u w', ((execOp a.eval o).run P w = .ok (.value u) w' ∨ ((execOp a.eval o).run P w = .ok .skip w' ∧ u = undef)) ∧ Heap W l' w' ∧ k l' u) ∨
    (∃ f args w0, (execOp a.eval o).run P w = .ok (.enter f args) w0 ∧ Calls P f args w0 fun e w' => ∃ l' u, e = .returned u ∧ Heap W l' w' ∧ k l' u)
theorem LoudK.mono {o : Oper} {l : List Thing} {a : Act} {k k' : List Thing → Value → Prop} (h : LoudK P ops W o l a k) (hk : ∀ l' u, k l' u → k' l' u) : LoudK P ops W o l a k' :=
  ⟨h.1, fun w H => by
    rcases h.2 w H with ⟨l', u, w', h1, h2, h3⟩ | ⟨f, args, w0, h1, h2⟩
    · exact .inl ⟨l', u, w', h1, h2, hk _ _ h3⟩
    · exact .inr ⟨f, args, w0, h1, h2.mono fun e w' ⟨l', u, h3, h4, h5⟩ => ⟨l', u, h3, h4, hk _ _ h5⟩⟩⟩
theorem LoudK.of_same {o : Oper} {l : List Thing} {a a' : Act} {k : List Thing → Value → Prop} (h : LoudK P ops W o l a k) (he : execOp a'.eval o = execOp a.eval o)
    (hw : Region.wanted o (yielded ops a'.tmps) = Region.wanted o (yielded ops a.tmps)) : LoudK P ops W o l a' k := ⟨by rw [hw]; exact h.1, fun w H => by rw [he]; exact h.2 w H⟩
def WholeK (P : Program) (md : Region.Mode) (ops : Array Oper) (W : World) (K : List Thing → Act → Prop) : Nat → List Thing → List Thing → Array Bool → Act → Prop
  | 0, base, l, listed, a => Region.ready md ops listed = [] ∧ K l a
  | f + 1, base, l, listed, a => Region.ready md ops listed ≠ [] ∧ ∀ i ∈ Region.ready md ops listed, ∃ o, ops[i]? = some o ∧
      ((∃ v, YieldsK P ops W base o v a ∧ WholeK P md ops W K f base l (listed.setIfInBounds i true) (a.put o.dst v)) ∨
       LoudK P ops W o l a fun l' u => ∃ base', Keeps base base' ∧ Keeps base' l' ∧ WholeK P md ops W K f base' l' (listed.setIfInBounds i true) (a.put o.dst u))
theorem WholeK.any {K : List Thing → Act → Prop} {Q : Exit → Act → World → Prop} (hK : ∀ l a w, Heap W l w → K l a → Q .normal a w) :
    ∀ (f : Nat) (base l : List Thing) (listed : Array Bool) (a : Act) (w : World), Keeps base l → Heap W l w → WholeK P md ops W K f base l listed a → wpAny P md ops Q f listed a w := by
  intro f
  induction f with
  | zero => intro base l listed a w _ H h; exact ⟨h.1, hK _ _ _ H h.2⟩
  | succ f ih =>
    intro base l listed a w hG H h
    refine ⟨fun h0 => absurd h0 h.1, fun i hi => ?_⟩
    obtain ⟨o, ho, h⟩ := h.2 i hi
    rcases h with ⟨v, hy, h⟩ | h
    · refine wpOp_of_qOp (C := fun w' => ∃ d, w' = H.any d) (H.any_of H) (fun a' w' hw' ha' => ?_) ((hy l hG w H).qOp ho (K := fun a' => a' = a.put o.dst v) rfl)
      obtain ⟨d, rfl⟩ := hw'
      subst ha'
      exact ih _ _ _ _ _ hG (H.any_heap d) h
    · unfold wpOp
      simp only [ho]
      rw [if_pos h.1]
      refine .inl ?_
      unfold Oper.wp
      rcases h.2 w H with ⟨l', u, w', hr, H', base', h1, h2, hk⟩ | ⟨g, args, w0, hr, hc⟩
      · rcases hr with hr | ⟨hr, rfl⟩ <;> rw [hr] <;> exact ih _ _ _ _ _ h2 H' hk
      · rw [hr, Oper.upon_enter]
        refine hc.mono ?_
        rintro e w' ⟨l', u, rfl, H', base', h1, h2, hk⟩
        exact ih _ _ _ _ _ h2 H' hk
theorem WholeK.first {i : Nat} {oi : Oper} {v : Value} {K : List Thing → Act → Prop} (hi : ops[i]? = some oi) (hsel : ∀ (j : Nat) (o : Oper) cs b, ops[j]? = some o → o.op ≠ .select cs b) :
    ∀ (f : Nat) (base l : List Thing) (listed : Array Bool) (a : Act),
      (∀ j oj, ops[j]? = some oj → j ≠ i → listed.getD j true = false → (∀ e ∈ oj.after, Region.binds md e = true → e.on ≠ i) → oi.apart ops oj = true) →
      i ∈ Region.ready md ops listed → YieldsK P ops W base oi v a → WholeK P md ops W K f base l (listed.setIfInBounds i true) (a.put oi.dst v) → WholeK P md ops W K (f + 1) base l listed a := by
  intro f
  induction f with
  | zero =>
    intro base l listed a _ hr hy H
    refine ⟨fun h => by rw [h] at hr; simp at hr, fun j hj => ?_⟩
    by_cases e : j = i
    · subst e; exact ⟨oi, hi, .inl ⟨v, hy, H⟩⟩
    · have := ready_mono hj e
      rw [H.1] at this; cases this
  | succ f ih =>
    intro base l listed a hfree hr hy H
    have hun := (mem_ready.1 hr).1
    refine ⟨fun h => by rw [h] at hr; simp at hr, fun j hj => ?_⟩
    by_cases e : j = i
    · subst e; exact ⟨oi, hi, .inl ⟨v, hy, H⟩⟩
    · obtain ⟨hjun, oj, hoj, hall⟩ := mem_ready.1 hj
      have hnot : ∀ e ∈ oj.after, Region.binds md e = true → e.on ≠ i := fun e he hb heq => by
        have := hall e he hb
        rw [heq, getD_both hun] at this
        cases this
      obtain ⟨h1, h2, h3⟩ := Oper.apart_spec (hfree j oj hoj e hjun hnot)
      have hsi := fun cs b => hsel i oi cs b hi
      have hsj := fun cs b => hsel j oj cs b hoj
      have keep : ∀ u, YieldsK P ops W base oi v (a.put oj.dst u) := fun u => hy.of_same (execOp_put oi hsi a oj.dst u h3) (wanted_put oi a oj.dst u h3)
      have hfree' : ∀ k ok, ops[k]? = some ok → k ≠ i → (listed.setIfInBounds j true).getD k true = false →
          (∀ e ∈ ok.after, Region.binds md e = true → e.on ≠ i) → oi.apart ops ok = true := fun k ok hk hki hun hno => by
        refine hfree k ok hk hki ?_ hno
        by_cases hjk : j = k
        · subst hjk; exact hjun
        · rw [getD_set_ne true hjk] at hun; exact hun
      obtain ⟨o', ho', h⟩ := H.2 j (ready_mono hj e)
      obtain rfl : o' = oj := Option.some.inj (ho'.symm.trans hoj)
      refine ⟨o', hoj, ?_⟩
      rcases h with ⟨u, hu, h⟩ | h
      · refine .inl ⟨u, hu.of_same (execOp_put o' hsj a oi.dst v h1).symm (wanted_put o' a oi.dst v h1).symm, ih _ _ _ _ hfree' (ready_mono hr (Ne.symm e)) (keep _) ?_⟩
        rw [Array.setIfInBounds_comm _ _ e, ← Act.put_comm a v _ h2]
        exact h
      · refine .inr ((h.of_same (execOp_put o' hsj a oi.dst v h1).symm (wanted_put o' a oi.dst v h1).symm).mono fun l' u ⟨base', hb1, hb2, h⟩ => ⟨base', hb1, hb2, ih _ _ _ _ hfree' (ready_mono hr (Ne.symm e)) ((keep _).more hb1) ?_⟩)
        rw [Array.setIfInBounds_comm _ _ e, ← Act.put_comm a v _ h2]
        exact h
/-- The walk in an order of one's own. -/
def wpK (P : Program) (ops : Array Oper) (W : World) (loud : List Nat) (K : List Thing → Act → Prop) : List Nat → List Thing → List Thing → Act → Prop
  | [], base, l, a => K l a
  | k :: ks, base, l, a => ∃ o, ops[k]? = some o ∧ if loud.contains k then LoudK P ops W o l a fun l' u => ∃ base', Keeps base base' ∧ Keeps base' l' ∧ wpK P ops W loud K ks base' l' (a.put o.dst u)
      else ∃ v, YieldsK P ops W base o v a ∧ wpK P ops W loud K ks base l (a.put o.dst v)
theorem WholeK.lexO {loud : List Nat} {K : List Thing → Act → Prop} (hsel : Region.noSelect ops = true) :
    ∀ (ks : List Nat) (base l : List Thing) (listed : Array Bool) (a : Act), Region.lexO md ops loud ks listed = true → wpK P ops W loud K ks base l a → WholeK P md ops W K ks.length base l listed a := by
  intro ks
  induction ks with
  | nil => intro base l listed a hB h; exact ⟨by simpa [Region.lexO] using hB, h⟩
  | cons k ks ih =>
    intro base l listed a hB h
    obtain ⟨o, h0, h⟩ := h
    rw [Region.lexO] at hB
    simp only [Bool.and_eq_true] at hB
    obtain ⟨hB, hB'⟩ := hB
    by_cases hk : loud.contains k = true
    · rw [if_pos hk] at h hB
      have hr : Region.ready md ops listed = [k] := by simpa using hB
      refine ⟨by rw [hr]; simp, fun i hi => ?_⟩
      rw [hr] at hi
      obtain rfl : i = k := by simpa using hi
      exact ⟨o, h0, .inr (h.mono fun l' u ⟨base', h1, h2, h⟩ => ⟨base', h1, h2, ih _ _ _ _ hB' h⟩)⟩
    · rw [if_neg hk] at h hB
      simp only [Bool.and_eq_true] at hB
      obtain ⟨v, hy, h⟩ := h
      exact WholeK.first h0 (Region.noSelect_spec hsel) ks.length base l listed a (Region.free_spec h0 hB.2) (by simpa using hB.1) hy (ih _ _ _ _ hB' h)
theorem wp_region_K {id : Nat} {Q : Exit → Act → World → Prop} {a : Act} {w : World} {l : List Thing} {lo : List Oper} (loud ord : List Nat) (base : List Thing) (H : Heap W l w) (hG : Keeps base l) (hm : P.follows .mixedOrders = true) (hB : Region.lexOB lo.toArray loud ord = true)
    (h : wpK P lo.toArray W loud (fun l' a' => ∀ w', Heap W l' w' → Q .normal a' w') ord base l a) : (Code.region id lo.toArray true).wp P Q a w := by
  simp only [Region.lexOB, Bool.and_eq_true, beq_iff_eq] at hB
  refine wp_region_any hm ?_
  have := WholeK.lexO (md := .any) hB.1.1 ord base l _ a hB.1.2 h
  have h2 := WholeK.any (Q := Q) (fun l a w H h => h w H) ord.length base l _ a _ hG H.drew this
  rw [hB.2] at h2
  exact h2
theorem wp_region_K0 {id : Nat} {Q : Exit → Act → World → Prop} {a : Act} {w : World} {l : List Thing} {lo : List Oper} (loud ord : List Nat) (H : Heap W l w) (hm : P.follows .mixedOrders = true) (hB : Region.lexOB lo.toArray loud ord = true)
    (h : wpK P lo.toArray W loud (fun l' a' => ∀ w', Heap W l' w' → Q .normal a' w') ord l l a) : (Code.region id lo.toArray true).wp P Q a w :=
  wp_region_K loud ord l H (fun _ h => h) hm hB h
theorem wpK_nil {loud : List Nat} {K : List Thing → Act → Prop} {base l : List Thing} {a : Act} (h : K l a) : wpK P ops W loud K [] base l a := h
theorem wpK_step {lo : List Oper} {loud : List Nat} {K : List Thing → Act → Prop} {o : Oper} {k : Nat} {ks : List Nat} {base l : List Thing} {a : Act} {s : Nat} {v : Value} (ho : lo[k]? = some o) (hk : loud.contains k = false) (hd : o.dst = some s) (hlt : s < a.tmps.size)
    (h1 : ∀ l0, Keeps base l0 → ∀ (w0 : World) (H0 : Heap W l0 w0), wpQuiet P lo.toArray (fun w' => ∃ d, w' = H0.any d) (fun a' => a'.tmps.getD s undef = v) [o] a) (h2 : wpK P lo.toArray W loud K ks base l (a.put o.dst v)) : wpK P lo.toArray W loud K (k :: ks) base l a := by
  have inj : ∀ u, (a.put o.dst u).tmps.getD s undef = v → u = v := fun u h => by
    rw [hd] at h
    simp [Act.put, hlt] at h
    exact h
  refine ⟨o, by simpa using ho, ?_⟩
  rw [if_neg (by rw [hk]; exact Bool.false_ne_true)]
  refine ⟨v, fun l0 hl0 w0 H0 => ?_, h2⟩
  have h := h1 l0 hl0 w0 H0
  unfold wpQuiet at h
  by_cases hw : Region.wanted o (yielded lo.toArray a.tmps) = true
  · rw [if_pos hw] at h
    obtain ⟨u, hu, hk⟩ := h
    obtain rfl := inj u hk
    exact .inl ⟨hw, hu⟩
  · rw [if_neg hw] at h
    exact .inr ⟨by simpa using hw, (inj undef h).symm⟩
/-- A loud one whose guard says no. -/
theorem wpK_skip {lo : List Oper} {loud : List Nat} {K : List Thing → Act → Prop} {o : Oper} {k : Nat} {ks : List Nat} {base l : List Thing} {a : Act} (ho : lo[k]? = some o) (hk : loud.contains k = false) (hw : Region.wanted o (yielded lo.toArray a.tmps) = false) (h2 : wpK P lo.toArray W loud K ks base l (a.put o.dst undef)) : wpK P lo.toArray W loud K (k :: ks) base l a := by
  refine ⟨o, by simpa using ho, ?_⟩
  rw [if_neg (by rw [hk]; exact Bool.false_ne_true)]
  exact ⟨undef, fun _ _ _ _ => .inr ⟨hw, rfl⟩, h2⟩
theorem wpK_loud {lo : List Oper} {loud : List Nat} {K : List Thing → Act → Prop} {o : Oper} {k : Nat} {ks : List Nat} {base l : List Thing} {a : Act} (ho : lo[k]? = some o) (hk : loud.contains k = true) (h : LoudK P lo.toArray W o l a fun l' u => ∃ base', Keeps base base' ∧ Keeps base' l' ∧ wpK P lo.toArray W loud K ks base' l' (a.put o.dst u)) : wpK P lo.toArray W loud K (k :: ks) base l a := by
  refine ⟨o, by simpa using ho, ?_⟩
  rw [if_pos hk]
  exact h
/-- A call, by what it does: in the end 'base' may grow. -/
theorem wpK_call {lo : List Oper} {loud : List Nat} {K : List Thing → Act → Prop} {k : Nat} {ks : List Nat} {base l : List Thing} {a : Act} {dst : Option Tmp} {ty : TypeId} {pos : String} {after : Array Edge} {guard : Option (Nat × Bool)} {f : FuncId} {xs : Array Operand} {ats : Array TypeId} {argl : List Value}
    (ho : lo[k]? = some ⟨dst, .call { callee := .value (.func f), args := xs, argTypes := ats }, ty, pos, after, guard⟩) (hk : loud.contains k = true) (hw : Region.wanted ⟨dst, .call { callee := .value (.func f), args := xs, argTypes := ats }, ty, pos, after, guard⟩ (yielded lo.toArray a.tmps) = true)
    (hf : ∀ args w, (callFunc f args).run P w = .ok (.enter f args) w) (ha : xs.toList.map a.eval = argl)
    (hc : ∀ w, Heap W l w → Calls P f argl.toArray w fun e w' => ∃ l' u, e = .returned u ∧ Heap W l' w' ∧ ∃ base', Keeps base base' ∧ Keeps base' l' ∧ wpK P lo.toArray W loud K ks base' l' (a.put dst u)) : wpK P lo.toArray W loud K (k :: ks) base l a := by
  refine wpK_loud ho hk ⟨hw, fun w H => .inr ⟨f, argl.toArray, w, ?_, hc w H⟩⟩
  have e : #[] ++ xs.map a.eval ++ #[] = argl.toArray := by subst ha; apply Array.ext'; simp
  rw [execOp_call_go, e]
  exact hf _ w
theorem Keeps.refl (l : List Thing) : Keeps l l := fun _ h => h
theorem wpK_boxR {W : World} {lo : List Oper} {loud : List Nat} {K : List Thing → Act → Prop} {k : Nat} {ks : List Nat} {base l : List Thing} {a : Act} {T : TypeId} {dst : Option Tmp} {ty : TypeId} {pos : String} {after : Array Edge} {guard : Option (Nat × Bool)} {x : Operand} {c : Array Value}
    (ho : lo[k]? = some ⟨dst, .box T x, ty, pos, after, guard⟩) (hk : loud.contains k = true) (hw : Region.wanted ⟨dst, .box T x, ty, pos, after, guard⟩ (yielded lo.toArray a.tmps) = true) (hx : a.eval x = .agg c) (hb : Keeps base l)
    (h : ∀ p, wpK P lo.toArray W loud K ks base (Cel p c T :: l) (a.put dst (.pointer (some ⟨p, 0, none⟩)))) : wpK P lo.toArray W loud K (k :: ks) base l a := by
  refine wpK_loud ho hk ⟨hw, fun w H => .inl ⟨Cel w.heap.size c T :: l, .pointer (some ⟨w.heap.size, 0, none⟩), w.alloc (.cells c T), .inl ?_, H.alloc c T, base, Keeps.refl _, fun t ht => List.mem_cons_of_mem _ (hb t ht), h _⟩⟩
  unfold execOp
  simp only [hx, Instr.box, newVar, newRow, Value.cells]
  rfl
end
end Go.Proofs.Ytgobnamhdkbbeaa

/- Rows of one's own, written in place; rows with all their room. -/
namespace Go.Proofs.Ytgobnamhdkbbeaa
open Go.RowKit
set_option linter.unusedSimpArgs false
set_option linter.unusedVariables false
/-- A row with all its room. -/
def FullT (e size : Nat) (a : Option Addr) (n c : Nat) (P : List Value → Prop) : Thing :=
  ⟨(Value.slice a n c).ownBlock, fun w => n ≤ c ∧ c ≤ maxLen ∧ ∃ xs, Own w 0 e size (.slice a c c) c xs ∧ P xs, fun w w' h ⟨hn, hm, xs, ho, hp⟩ => ⟨hn, hm, xs, ho.same fun k hk => h k (by cases a <;> exact hk), hp⟩⟩
theorem Own.full {w : World} {e size n c : Nat} {a : Option Addr} {xs : List Value} (h : Own w 0 e size (.slice a n c) n xs) : n ≤ c ∧ c ≤ maxLen ∧ ∃ ys, Own w 0 e size (.slice a c c) c ys := by
  obtain ⟨hl, ⟨hv, hn⟩ | ⟨g, off, cap, cur, hv, hb, hg, hnc, hcm, hs, ht⟩⟩ := h
  · simp only [Value.slice.injEq] at hv
    obtain ⟨rfl, rfl, rfl⟩ := hv
    exact ⟨Nat.le_refl _, by unfold maxLen; omega, [], by simp, .inl ⟨rfl, rfl⟩⟩
  · simp only [Value.slice.injEq, true_and] at hv
    obtain ⟨rfl, rfl⟩ := hv
    refine ⟨hnc, hcm, (cur.toList.drop off).take (c * size), ?_, .inr ⟨g, off, c, cur, rfl, hb, hg, Nat.le_refl _, hcm, hs, rfl⟩⟩
    simp
    omega
section
variable {W w : World} {l : List Thing} {e size n c : Nat} {a : Option Addr} {xs : List Value} {P Q : List Value → Prop}
theorem Heap.toFull (H : Heap W (OwnT e size (.slice a n c) n xs :: l) w) : Heap W (FullT e size a n c (fun _ => True) :: l) w := by
  obtain ⟨h1, h2, ys, h3⟩ := Own.full (H.ok _ List.mem_cons_self)
  exact H.head (World.grownBy.refl _ _) ⟨h1, h2, ys, h3, trivial⟩ (.inl rfl)
theorem Heap.openFull (H : Heap W (FullT e size a n c P :: l) w) : ∃ xs, P xs ∧ n ≤ c ∧ c ≤ maxLen ∧ xs.length = c * size ∧ (a = none → c = 0) ∧ Heap W (OwnT e size (.slice a c c) c xs :: l) w := by
  obtain ⟨h1, h2, xs, h3, h4⟩ := H.ok _ List.mem_cons_self
  refine ⟨xs, h4, h1, h2, h3.1, fun e => ?_, H.head (World.grownBy.refl _ _) h3 (.inl (by cases a <;> rfl))⟩
  subst e
  obtain ⟨_, ⟨hv, _⟩ | ⟨g, off, cap, cur, hv, _⟩⟩ := h3
  · simp only [Value.slice.injEq] at hv; exact hv.2.2
  · simp at hv
theorem Heap.shutFull (H : Heap W (OwnT e size (.slice a c c) c xs :: l) w) (hn : n ≤ c) (hc : c ≤ maxLen) (hP : P xs) : Heap W (FullT e size a n c P :: l) w :=
  H.head (World.grownBy.refl _ _) ⟨hn, hc, xs, H.ok _ List.mem_cons_self, hP⟩ (.inl (by cases a <;> rfl))
theorem Heap.clipOwn (H : Heap W (OwnT e size (.slice a n c) n xs :: l) w) : Heap W (OwnT e size (.slice a n n) n xs :: l) w :=
  H.head (World.grownBy.refl _ _) (Own.clip (H.ok _ List.mem_cons_self)) (.inl (by cases a <;> rfl))
theorem OwnT.room (h : (OwnT e size (.slice a n c) n xs).ok w) : n ≤ c ∧ c ≤ maxLen := ⟨(Own.full h).1, (Own.full h).2.1⟩
theorem OwnT.len {v : Value} (h : (OwnT e size v n xs).ok w) : xs.length = n * size := h.1
end
theorem Own.put {w : World} {g off n c e size : Nat} {xs : List Value} (h : Own w 0 e size (.slice (some ⟨g, off, none⟩) n c) n xs) {cur : Array Value} {t : TypeId} (hb : blk w g = some (.cells cur t (0, 0))) (j : Nat) (c2 : Array Value) (hj : j + c2.size ≤ xs.length) :
    Own (setBlk w g (splice cur (off + j) c2)) 0 e size (.slice (some ⟨g, off, none⟩) n c) n (xs.take j ++ c2.toList ++ xs.drop (j + c2.size)) := by
  obtain ⟨hl, ⟨hv, _⟩ | ⟨g', off', cap, cur', hv, hb', hg, hnc, hcm, hs, ht⟩⟩ := h
  · cases hv
  · simp only [Value.slice.injEq, Option.some.injEq, Addr.mk.injEq, true_and] at hv
    obtain ⟨⟨rfl, rfl, _⟩, rfl⟩ := hv
    have hb2 : w.heap[g]? = some (.cells cur t (0, 0)) := hb
    rw [hg] at hb2
    cases hb2
    have hnm : n * size ≤ c * size := Nat.mul_le_mul_right _ hnc
    refine ⟨by simp; omega, .inr ⟨g, off, c, splice cur (off + j) c2, rfl, hb', setBlk_same w g _ cur _ _ hg, hnc, hcm, ?_, ?_⟩⟩
    · unfold splice
      simp
      omega
    · unfold splice
      rw [List.toList_toArray]
      apply List.ext_getElem?
      intro i
      have hxi : ∀ i, i < n * size → xs[i]? = cur.toList[off + i]? := fun i hi => by
        rw [← ht, List.getElem?_take, if_pos hi, List.getElem?_drop]
      have hsz : cur.toList.length = cur.size := Array.length_toList
      rw [List.getElem?_take]
      by_cases hi : i < n * size
      · rw [if_pos hi, List.getElem?_drop]
        have hA : (cur.toList.take (off + j)).length = off + j := by simp; omega
        have hB : (xs.take j).length = j := by simp; omega
        by_cases h1 : i < j
        · rw [List.append_assoc, List.getElem?_append_left (by rw [hA]; omega), List.append_assoc, List.getElem?_append_left (by rw [hB]; omega), List.getElem?_take, if_pos (by omega), List.getElem?_take, if_pos h1, hxi i hi]
        · rw [List.append_assoc, List.append_assoc, List.getElem?_append_right (l₁ := cur.toList.take (off + j)) (by rw [hA]; omega), List.getElem?_append_right (l₁ := xs.take j) (by rw [hB]; omega), hA, hB, show off + i - (off + j) = i - j by omega]
          by_cases h2 : i - j < c2.size
          · rw [List.getElem?_append_left (by simpa using h2), List.getElem?_append_left (by simpa using h2)]
          · rw [List.getElem?_append_right (by simp; omega), List.getElem?_append_right (by simp; omega), List.getElem?_drop, List.getElem?_drop, Array.length_toList, show off + j + c2.size + (i - j - c2.size) = off + i by omega, show j + c2.size + (i - j - c2.size) = i by omega, hxi i hi]
      · rw [if_neg hi, List.getElem?_eq_none (by simp; omega)]
theorem splice_one {cur : Array Value} {k : Nat} {v : Value} (h : k < cur.size) : splice cur k #[v] = cur.setIfInBounds k v := by
  unfold splice
  apply Array.ext_getElem?
  intro i
  rw [Array.getElem?_setIfInBounds, List.getElem?_toArray]
  have hA : (cur.toList.take k).length = k := by simp; omega
  by_cases h1 : i < k
  · rw [List.append_assoc, List.getElem?_append_left (by rw [hA]; omega), List.getElem?_take, if_pos h1, if_neg (by omega)]
    simp
  · rw [List.append_assoc, List.getElem?_append_right (by rw [hA]; omega), hA]
    by_cases h2 : i = k
    · subst h2; simp [h]
    · rw [if_neg (by omega), List.getElem?_append_right (by simp; omega), List.getElem?_drop]
      simp
      congr 1
      omega
theorem list_put_one {xs : List Value} {j : Nat} {v : Value} (h : j < xs.length) : xs.take j ++ [v] ++ xs.drop (j + 1) = xs.set j v := by
  rw [List.append_assoc, List.set_eq_take_append_cons_drop, if_pos h]; rfl
theorem Own.blkOf {w : World} {g off n c e size : Nat} {xs : List Value} (h : Own w 0 e size (.slice (some ⟨g, off, none⟩) n c) n xs) : ∃ cur, blk w g = some (.cells cur e (0, 0)) ∧ off + xs.length ≤ cur.size := by
  obtain ⟨hl, ⟨hv, _⟩ | ⟨g', off', cap, cur', hv, hb', hg, hnc, hcm, hs, ht⟩⟩ := h
  · cases hv
  · simp only [Value.slice.injEq, Option.some.injEq, Addr.mk.injEq, true_and] at hv
    obtain ⟨⟨rfl, rfl, _⟩, rfl⟩ := hv
    have hnm : n * size ≤ c * size := Nat.mul_le_mul_right _ hnc
    exact ⟨cur', hg, by omega⟩
theorem putOwnH {W w : World} {l l' : List Thing} {g off n c e size : Nat} {xs ys : List Value} (H : Heap W l w) {cur c2 : Array Value} (hb : blk w g = some (.cells cur e (0, 0))) {j : Nat} (hj : j + c2.size ≤ xs.length) (hy : xs.take j ++ c2.toList ++ xs.drop (j + c2.size) = ys)
    (r : Repl l (OwnT e size (.slice (some ⟨g, off, none⟩) n c) n xs) (OwnT e size (.slice (some ⟨g, off, none⟩) n c) n ys) l') : Heap W l' (setBlk w g (splice cur (off + j) c2)) :=
  H.upd r grown_setBlk (by subst hy; exact Own.put (H.ok _ r.mem) hb j c2 hj) (.inl rfl)
section
variable {ops : Array Oper} {rest : List Oper} {o : Oper} {a : Act} {w W : World} {l l' : List Thing} {Q : Exit → Act → World → Prop}
/-- s[i] = v, of one cell. -/
theorem wpl_storeOwnC {T e : TypeId} {dst : Option Tmp} {ty : TypeId} {pos : String} {after : Array Edge} {guard : Option (Nat × Bool)} {x y : Operand} {g ad off n c size j : Nat} {v : Value} {xs : List Value} (CT : CellTy T) (hw : Region.wanted ⟨dst, .store T x y, ty, pos, after, guard⟩ (yielded ops a.tmps) = true) (hx : a.eval x = .pointer (some ⟨g, ad, none⟩)) (hy : a.eval y = v) (hc : v.cells = #[v] ∧ v.oneCell' = true)
    (H : Heap W l w) (m : OwnT e size (.slice (some ⟨g, off, none⟩) n c) n xs ∈ l) (hk : ad = off + j) (hj : j < xs.length) (r : Repl l (OwnT e size (.slice (some ⟨g, off, none⟩) n c) n xs) (OwnT e size (.slice (some ⟨g, off, none⟩) n c) n (xs.set j v)) l')
    (h : ∀ w', Heap W l' w' → wpList Try.prog ops Q rest (a.put dst undef) w') : wpList Try.prog ops Q (⟨dst, .store T x y, ty, pos, after, guard⟩ :: rest) a w := by
  subst hk
  obtain ⟨cur, hb, hs⟩ := Own.blkOf (H.ok _ m)
  have h2 := putOwnH H (j := j) (c2 := #[v]) hb (by simp; omega) (list_put_one hj) r
  rw [splice_one (by omega)] at h2
  exact wpl_storeC CT hw hx hy hc hb (by omega) rfl ⟨⟨_, hb⟩, rfl⟩ (h _ h2)
/-- s[i] = v, of a row. -/
theorem wpl_storeOwnR {T N e : Nat} {z : Array Value} {dst : Option Tmp} {ty : TypeId} {pos : String} {after : Array Edge} {guard : Option (Nat × Bool)} {x y : Operand} {g ad off n c size j : Nat} {c2 : Array Value} {xs ys : List Value} (RT : RowTy T N z) (hw : Region.wanted ⟨dst, .store T x y, ty, pos, after, guard⟩ (yielded ops a.tmps) = true) (hx : a.eval x = .pointer (some ⟨g, ad, none⟩)) (hy : a.eval y = .agg c2) (hc : Cells N c2)
    (H : Heap W l w) (m : OwnT e size (.slice (some ⟨g, off, none⟩) n c) n xs ∈ l) (hk : ad = off + j) (hj : j + N ≤ xs.length) (hys : xs.take j ++ c2.toList ++ xs.drop (j + N) = ys) (r : Repl l (OwnT e size (.slice (some ⟨g, off, none⟩) n c) n xs) (OwnT e size (.slice (some ⟨g, off, none⟩) n c) n ys) l')
    (h : ∀ w', Heap W l' w' → wpList Try.prog ops Q rest (a.put dst undef) w') : wpList Try.prog ops Q (⟨dst, .store T x y, ty, pos, after, guard⟩ :: rest) a w := by
  subst hk
  obtain ⟨cur, hb, hs⟩ := Own.blkOf (H.ok _ m)
  have hN := hc.1
  have h2 := putOwnH H (j := j) (c2 := c2) hb (by omega) (by rw [hN]; exact hys) r
  exact wpl_storeR RT hw hx hy hc hb (by omega) rfl ⟨⟨_, hb⟩, rfl⟩ (h _ h2)
theorem wpQ_loadRdR {T n : Nat} {z : Array Value} {dst : Option Tmp} {ty : TypeId} {pos : String} {after : Array Edge} {guard : Option (Nat × Bool)} {x : Operand} {b off : Nat} {K : Act → Prop} {H : Heap W l w} (RT : RowTy T n z) (hw : Region.wanted ⟨dst, .load T x, ty, pos, after, guard⟩ (yielded ops a.tmps) = true) (hx : a.eval x = .pointer (some ⟨b, off, none⟩))
    {o k : Nat} {xs : List Value} {c1 : Array Value} (R : ∀ w', Heap W l w' → Rd w' (some ⟨b, o, none⟩) xs) (hk : off = o + k) (hn : k + n ≤ xs.length) (h0 : 0 < n) (hv : ((xs.drop k).take n).toArray = c1)
    (h : wpQuiet Try.prog ops (fun w' => ∃ d, w' = H.any d) K rest (a.put dst (.agg c1))) : wpQuiet Try.prog ops (fun w' => ∃ d, w' = H.any d) K (⟨dst, .load T x, ty, pos, after, guard⟩ :: rest) a := by
  subst hk
  refine BigFrame.wpQuiet_want hw fun K hK => ⟨_, ?_, hK _ h⟩
  rintro _ ⟨d, rfl⟩
  obtain ⟨cs, t, f, hb, hs, he⟩ := rd_block (R _ (H.any_heap d)) hn h0
  unfold Oper.quietAt execOp
  simp only [hx, Sem.run_bind, run_loadR RT hb hs, he, hv]
  exact ⟨rfl, rfl⟩
theorem wpQ_loadAt {T : TypeId} {dst : Option Tmp} {ty : TypeId} {pos : String} {after : Array Edge} {guard : Option (Nat × Bool)} {x : Operand} {b off : Nat} {K : Act → Prop} {H : Heap W l w} (CT : CellTy T) (hw : Region.wanted ⟨dst, .load T x, ty, pos, after, guard⟩ (yielded ops a.tmps) = true) (hx : a.eval x = .pointer (some ⟨b, off, none⟩))
    {v : Value} (hc : ∀ w', Heap W l w' → w'.cell? ⟨b, off, none⟩ = some v)
    (h : wpQuiet Try.prog ops (fun w' => ∃ d, w' = H.any d) K rest (a.put dst v)) : wpQuiet Try.prog ops (fun w' => ∃ d, w' = H.any d) K (⟨dst, .load T x, ty, pos, after, guard⟩ :: rest) a := by
  refine BigFrame.wpQuiet_want hw fun K hK => ⟨v, ?_, hK _ h⟩
  rintro _ ⟨d, rfl⟩
  have hv := hc _ (H.any_heap d)
  simp only [World.cell?, if_true] at hv
  cases hb : (H.any d).heap[b]? with
  | none => rw [hb] at hv; cases hv
  | some o =>
    rw [hb] at hv
    cases o <;> first | (cases hv; done) | skip
    rename_i cs t f
    unfold Oper.quietAt execOp
    simp only [hx, Sem.run_bind, run_loadC CT hb hv]
    exact ⟨rfl, rfl⟩
end
theorem RowT.form0 {w : World} {e size n : Nat} {v : Value} {xs : List Value} (h : (RowT e size v n xs).ok w) : ∃ a c, v = .slice a n c ∧ n ≤ c ∧ c ≤ maxLen := by
  obtain ⟨a, c, e, _, h1, h2, _⟩ := (Own.ofRow h).rd
  exact ⟨a, c, e, h1, h2⟩
theorem Heap.rowRd {W w : World} {l : List Thing} {e size n c : Nat} {a : Option Addr} {xs : List Value} (H : Heap W l w) (m : RowT e size (.slice a n c) n xs ∈ l) : Rd w a xs := by
  obtain ⟨a', c', he, hr, _⟩ := (Own.ofRow (H.ok _ m)).rd
  simp only [Value.slice.injEq, true_and] at he
  obtain ⟨rfl, _⟩ := he
  exact hr
end Go.Proofs.Ytgobnamhdkbbeaa

/- rounds: party, order, may. -/
namespace Go.Proofs.Ytgobnamhdkbbeaa
open Go.RowKit Go.Sort
set_option linter.unusedSimpArgs false
set_option linter.unusedVariables false
set_option maxRecDepth 100000
set_option maxHeartbeats 2000000
theorem party8 (a : Nat) (h : a ≤ 255) : Ans 131 #[.int .u8 (a : Int)] (.bool (mayP a)) := by
  intro w
  unfold mayP
  by_cases h1 : 1 ≤ a
  · by_cases h2 : a ≤ 16
    all_goals
      go_enter Try.func131, Try.ntmps131
      go_wp2_with fail
      go_ret
      exact ⟨by simp [h1, h2]; omega, (by repeat (first | exact Ext.refl _ | refine Ext.alloc ?_ _ | refine Ext.ext ?_ _ | refine Ext.drew ?_))⟩
  · go_enter Try.func131, Try.ntmps131
    go_wp2_with fail
    go_ret
    exact ⟨by simp [h1], (by repeat (first | exact Ext.refl _ | refine Ext.alloc ?_ _ | refine Ext.ext ?_ _ | refine Ext.drew ?_))⟩
/-- By from, then by to. -/
def cfF (x y : Flw) : Int := orL [Lib.compareInt x.f y.f, Lib.compareInt x.t y.t]
theorem order8 (x y : Flw) : AnsG 132 #[.agg (flow (x.f : Int) (x.t : Int) x.n), .agg (flow (y.f : Int) (y.t : Int) y.n)] (.int .i64 (cfF x y)) := by
  intro w
  unfold cfF
  have c2 := AnsG.same (cmpP_ans x.f y.f)
  have c3 := AnsG.same (cmpP_ans x.t y.t)
  obtain ⟨xr, xd, xn⟩ := x
  obtain ⟨yr, yd, yn⟩ := y
  simp only at c2 c3 ⊢
  have h1 : blk ((w.alloc (.cells (flow (xr : Int) (xd : Int) xn) 32)).alloc (.cells (flow (yr : Int) (yd : Int) yn) 32)) w.heap.size = some (.cells (flow (xr : Int) (xd : Int) xn) 32 (0, 0)) := by
    unfold blk
    rw [Below.heap_alloc _ _ _ (by simp)]
    exact heap_alloc_new w _
  have h2 : blk ((w.alloc (.cells (flow (xr : Int) (xd : Int) xn) 32)).alloc (.cells (flow (yr : Int) (yd : Int) yn) 32)) (w.heap.size + 1) = some (.cells (flow (yr : Int) (yd : Int) yn) 32 (0, 0)) := by
    have := heap_alloc_new (w.alloc (.cells (flow (xr : Int) (xd : Int) xn) 32)) (.cells (flow (yr : Int) (yd : Int) yn) 32)
    simpa [blk] using this
  have hg : Grw w ((w.alloc (.cells (flow (xr : Int) (xd : Int) xn) 32)).alloc (.cells (flow (yr : Int) (yd : Int) yn) 32)) := ((Grw.refl w).alloc _).alloc _
  generalize Lib.compareInt (xr : Int) (yr : Int) = b at *
  generalize Lib.compareInt (xd : Int) (yd : Int) = c at *
  generalize hw0 : ((w.alloc (.cells (flow (xr : Int) (xd : Int) xn) 32)).alloc (.cells (flow (yr : Int) (yd : Int) yn) 32)) = w0 at *
  have HW := Lib.hid hw0
  clear hw0
  go_enter Try.func132, Try.ntmps132
  go_wp2_with (go_skip)
  rw [HW.out]
  refine wp_region_G_tail 10 (by kernel_rfl) (by kernel_rfl) ?_
  simp only [List.take_succ_cons, List.take_zero, List.drop_succ_cons, List.drop_zero]
  repeat (first
    | go_big_quiet_skip
    | ((with_reducible apply wpQ_loadCG); (· exact cell_party); (· rfl); (· rfl); (· first | exact h1 | exact h2); (· with_reducible first | exact flow_g0 .. | exact flow_g1 ..); (simp only [Act.put, List.setIfInBounds_toArray, List.set_cons_zero, List.set_cons_succ]))
    | go_big_quiet_step (with_reducible exact AnsG.quiet (by assumption)))
  refine wpQuiet_nil ?_
  clear h1 h2
  intro w1 g1
  have g2 := hg.trans g1
  go_wp2_with (go_skip)
  have hb : Rd (w1.alloc (.cells #[.int .i64 b, .int .i64 c] 3)) (some ⟨w1.heap.size, 0, none⟩) ([b, c].map (Value.int .i64)) := by
    intro i hi
    refine ⟨_, _, rfl, ?_⟩
    rw [cell_of_row _ _ (0 + i) _ _ _ (heap_alloc_new w1 _)]
    simp at hi
    simp [hi]
  refine (or_C _ 2 2 [b, c] rfl (by omega) _ hb).mono ?_
  clear hb
  rintro e w' ⟨rfl, rfl⟩
  go_wp2_with (go_skip)
  go_ret
  exact ⟨rfl, g2.alloc _⟩
/-- May a debt be? -/
def okD (x : Flw) : Bool := mayP x.f && mayP x.t && !(x.f == x.t) && decide (1 ≤ x.n) && decide (x.n ≤ 1099511627776)
/-- The first debts may be, and stand in their order. -/
def OkTo (F : List Flw) (k : Nat) : Prop := ∀ i x, i < k → F[i]? = some x → okD x = true ∧ ∀ y, 0 < i → F[i - 1]? = some y → cfF y x < 0
def MayD (F : List Flw) : Prop := OkTo F F.length
theorem OkTo.next {F : List Flw} {k : Nat} {x : Flw} (h : OkTo F k) (hx : F[k]? = some x) (h1 : okD x = true) (h2 : ∀ y, 0 < k → F[k - 1]? = some y → cfF y x < 0) : OkTo F (k + 1) := fun i z hi hz => by
  by_cases e : i = k
  · subst e
    rw [hx] at hz
    cases hz
    exact ⟨h1, h2⟩
  · exact h i z (by omega) hz
theorem MayD.at {F : List Flw} (h : MayD F) {k : Nat} {x : Flw} (hx : F[k]? = some x) : okD x = true ∧ ∀ y, 0 < k → F[k - 1]? = some y → cfF y x < 0 := h k x (List.getElem?_eq_some_iff.1 hx).1 hx
structure M8R (W : World) (l : List Thing) (F : List Flw) (n : Nat) (i : Value) (wr : World) : Prop where
  out : ∃ k : Nat, k ≤ n ∧ i = .int .i64 (k : Int) ∧ OkTo F k ∧ Heap W l wr
section
variable {W w : World} {l : List Thing}
open Classical in
theorem may8_H (a : Option Addr) (n c : Nat) (F : List Flw) (hl : F.length = n) (hn : n ≤ 1000000) (hF : ∀ x ∈ F, FlwOk x) (R : ∀ l' w', (∀ x ∈ l, x ∈ l') → Heap W l' w' → Rd w' a (flwL F)) :
    AnsH W l 107 #[.slice a n c] (.bool (decide (MayD F))) := by
  intro w H
  have HL := Lib.hid hl
  have HF := Lib.hid hF
  have HR := Lib.hid R
  clear hl hF R
  go_enter Try.func107, Try.ntmps107
  go_wp2_with (go_skip)
  have H0 := H
  clear H
  go_loopw [7] (fun i wr => M8R W l F n i wr) (fun i _ => n - (intOf i).toNat)
  case atStart => exact ⟨0, Nat.zero_le _, rfl, fun i x hi => absurd hi (by omega), H0⟩
  case round =>
    obtain ⟨k, hk, rfl, hO, H⟩ := hrel.out
    clear H0 hrel
    have HO := Lib.hid hO
    clear hO
    by_cases hlt : k < n
    · have hkF : k < F.length := by rw [HL.out]; exact hlt
      have hx : F[k]? = some F[k] := List.getElem?_eq_getElem hkF
      have hok := HF.out F[k] (List.getElem_mem hkF)
      have hat := flwL_at F k hkF
      have hlen : k * 3 + 3 ≤ (flwL F).length := by rw [flwL_len]; omega
      generalize F[k] = x at *
      have HMAY := Lib.hid (fun (h : MayD F) => h.at hx)
      have HX := Lib.hid hx
      obtain ⟨f, t, m⟩ := x
      obtain ⟨o1, o2, o3, o4⟩ := hok
      simp only at o1 o2 o3 o4
      have hrow : (((flwL F).drop (k * 3)).take 3).toArray = flow (f : Int) (t : Int) m := by rw [hat]; rfl
      obtain ⟨eb, eo, rfl, _⟩ := (HR.out l _ (fun _ h => h) H).lt (by omega)
      have HRd := Lib.hid (HR.out l _ (fun _ h => h) H)
      have P1 := party8 f o1
      have P2 := party8 t o2
      clear hat hx hkF
      by_cases q0 : mayP f = true
      · rw [q0] at P1
        by_cases q1 : mayP t = true
        · rw [q1] at P2
          by_cases q2 : f = t
          · subst q2
            have HN := Lib.hid (show ¬ MayD F from fun h => by have := (HMAY.out h).1; simp [okD] at this)
            clear q0 q1 P2
            go_wp2_with (first
              | go_skip
              | ((with_reducible refine Ans.callH (by assumption) H ?_); clear H; intro _ H)
              | ((with_reducible show wpList _ _ _ (_ :: _) _ _); (with_reducible apply wpl_loadRdR row_flow); (· rfl); (· rfl); (· exact HRd.out); (· rfl); (· exact hlen); (· decide); (· exact hrow); (simp only [Act.put, List.setIfInBounds_toArray, List.set_cons_zero, List.set_cons_succ]))
              | ((with_reducible show wpList _ _ _ (_ :: _) _ _); (with_reducible apply wpl_allocRH row_flow); (· rfl); (· exact H); (clear H; intro px _ H); (simp only [Act.put, List.setIfInBounds_toArray, List.set_cons_zero, List.set_cons_succ]))
              | ((with_reducible show wpList _ _ _ (_ :: _) _ _); (with_reducible apply wpl_storeRH row_flow); (· rfl); (· rfl); (· rfl); (· with_reducible exact flow_cells ..); (· exact H); (· (repeat (first | (with_reducible exact List.mem_cons_self) | with_reducible apply List.mem_cons_of_mem))); (· (simp only [flow_sz, Nat.reduceAdd, Nat.reduceLeDiff, Nat.le_refl]; done)); (· with_reducible exact flow_splice ..); (· (repeat (first | (with_reducible exact Repl.here) | with_reducible apply Repl.there))); (clear H; intro _ H); (simp only [Act.put, List.setIfInBounds_toArray, List.set_cons_zero, List.set_cons_succ]))
              | ((with_reducible show wpList _ _ _ (_ :: _) _ _); (with_reducible apply wpl_loadCH); (· first | exact cell_party | exact cell_i64); (· rfl); (· rfl); (· exact H); (· (repeat (first | (with_reducible exact List.mem_cons_self) | with_reducible apply List.mem_cons_of_mem))); (· (with_reducible first | exact flow_g0 .. | exact flow_g1 .. | exact flow_g2 ..)); (simp only [Act.put, List.setIfInBounds_toArray, List.set_cons_zero, List.set_cons_succ])))
            go_ret
            exact ⟨by rw [decide_eq_false HN.out]; rfl, H.tail⟩
          · have b2 : ((f : Int) == (t : Int)) = false := by simp; omega
            by_cases q3 : m < 1
            · have d3 : decide (m < 1) = true := decide_eq_true q3
              have HN := Lib.hid (show ¬ MayD F from fun h => by have := (HMAY.out h).1; simp [okD] at this; omega)
              clear q0 q1 q2 q3
              go_wp2_with (first
                | go_skip
                | ((with_reducible refine Ans.callH (by assumption) H ?_); clear H; intro _ H)
                | ((with_reducible show wpList _ _ _ (_ :: _) _ _); (with_reducible apply wpl_loadRdR row_flow); (· rfl); (· rfl); (· exact HRd.out); (· rfl); (· exact hlen); (· decide); (· exact hrow); (simp only [Act.put, List.setIfInBounds_toArray, List.set_cons_zero, List.set_cons_succ]))
                | ((with_reducible show wpList _ _ _ (_ :: _) _ _); (with_reducible apply wpl_allocRH row_flow); (· rfl); (· exact H); (clear H; intro px _ H); (simp only [Act.put, List.setIfInBounds_toArray, List.set_cons_zero, List.set_cons_succ]))
                | ((with_reducible show wpList _ _ _ (_ :: _) _ _); (with_reducible apply wpl_storeRH row_flow); (· rfl); (· rfl); (· rfl); (· with_reducible exact flow_cells ..); (· exact H); (· (repeat (first | (with_reducible exact List.mem_cons_self) | with_reducible apply List.mem_cons_of_mem))); (· (simp only [flow_sz, Nat.reduceAdd, Nat.reduceLeDiff, Nat.le_refl]; done)); (· with_reducible exact flow_splice ..); (· (repeat (first | (with_reducible exact Repl.here) | with_reducible apply Repl.there))); (clear H; intro _ H); (simp only [Act.put, List.setIfInBounds_toArray, List.set_cons_zero, List.set_cons_succ]))
                | ((with_reducible show wpList _ _ _ (_ :: _) _ _); (with_reducible apply wpl_loadCH); (· first | exact cell_party | exact cell_i64); (· rfl); (· rfl); (· exact H); (· (repeat (first | (with_reducible exact List.mem_cons_self) | with_reducible apply List.mem_cons_of_mem))); (· (with_reducible first | exact flow_g0 .. | exact flow_g1 .. | exact flow_g2 ..)); (simp only [Act.put, List.setIfInBounds_toArray, List.set_cons_zero, List.set_cons_succ])))
              go_ret
              exact ⟨by rw [decide_eq_false HN.out]; rfl, H.tail⟩
            · have d3 : decide (m < 1) = false := decide_eq_false q3
              by_cases q4 : m > 1099511627776
              · have d4 : decide (m > 1099511627776) = true := decide_eq_true q4
                have HN := Lib.hid (show ¬ MayD F from fun h => by have := (HMAY.out h).1; simp [okD] at this; omega)
                clear q0 q1 q2 q3 q4
                go_wp2_with (first
                  | go_skip
                  | ((with_reducible refine Ans.callH (by assumption) H ?_); clear H; intro _ H)
                  | ((with_reducible show wpList _ _ _ (_ :: _) _ _); (with_reducible apply wpl_loadRdR row_flow); (· rfl); (· rfl); (· exact HRd.out); (· rfl); (· exact hlen); (· decide); (· exact hrow); (simp only [Act.put, List.setIfInBounds_toArray, List.set_cons_zero, List.set_cons_succ]))
                  | ((with_reducible show wpList _ _ _ (_ :: _) _ _); (with_reducible apply wpl_allocRH row_flow); (· rfl); (· exact H); (clear H; intro px _ H); (simp only [Act.put, List.setIfInBounds_toArray, List.set_cons_zero, List.set_cons_succ]))
                  | ((with_reducible show wpList _ _ _ (_ :: _) _ _); (with_reducible apply wpl_storeRH row_flow); (· rfl); (· rfl); (· rfl); (· with_reducible exact flow_cells ..); (· exact H); (· (repeat (first | (with_reducible exact List.mem_cons_self) | with_reducible apply List.mem_cons_of_mem))); (· (simp only [flow_sz, Nat.reduceAdd, Nat.reduceLeDiff, Nat.le_refl]; done)); (· with_reducible exact flow_splice ..); (· (repeat (first | (with_reducible exact Repl.here) | with_reducible apply Repl.there))); (clear H; intro _ H); (simp only [Act.put, List.setIfInBounds_toArray, List.set_cons_zero, List.set_cons_succ]))
                  | ((with_reducible show wpList _ _ _ (_ :: _) _ _); (with_reducible apply wpl_loadCH); (· first | exact cell_party | exact cell_i64); (· rfl); (· rfl); (· exact H); (· (repeat (first | (with_reducible exact List.mem_cons_self) | with_reducible apply List.mem_cons_of_mem))); (· (with_reducible first | exact flow_g0 .. | exact flow_g1 .. | exact flow_g2 ..)); (simp only [Act.put, List.setIfInBounds_toArray, List.set_cons_zero, List.set_cons_succ])))
                go_ret
                exact ⟨by rw [decide_eq_false HN.out]; rfl, H.tail⟩
              · have d4 : decide (m > 1099511627776) = false := decide_eq_false q4
                have HK := Lib.hid (show okD ⟨f, t, m⟩ = true from by simp [okD, q0, q1]; omega)
                clear q0 q1 q2 q3 q4
                go_wp2_with (first
                  | go_skip
                  | ((with_reducible refine Ans.callH (by assumption) H ?_); clear H; intro _ H)
                  | ((with_reducible show wpList _ _ _ (_ :: _) _ _); (with_reducible apply wpl_loadRdR row_flow); (· rfl); (· rfl); (· exact HRd.out); (· rfl); (· exact hlen); (· decide); (· exact hrow); (simp only [Act.put, List.setIfInBounds_toArray, List.set_cons_zero, List.set_cons_succ]))
                  | ((with_reducible show wpList _ _ _ (_ :: _) _ _); (with_reducible apply wpl_allocRH row_flow); (· rfl); (· exact H); (clear H; intro px _ H); (simp only [Act.put, List.setIfInBounds_toArray, List.set_cons_zero, List.set_cons_succ]))
                  | ((with_reducible show wpList _ _ _ (_ :: _) _ _); (with_reducible apply wpl_storeRH row_flow); (· rfl); (· rfl); (· rfl); (· with_reducible exact flow_cells ..); (· exact H); (· (repeat (first | (with_reducible exact List.mem_cons_self) | with_reducible apply List.mem_cons_of_mem))); (· (simp only [flow_sz, Nat.reduceAdd, Nat.reduceLeDiff, Nat.le_refl]; done)); (· with_reducible exact flow_splice ..); (· (repeat (first | (with_reducible exact Repl.here) | with_reducible apply Repl.there))); (clear H; intro _ H); (simp only [Act.put, List.setIfInBounds_toArray, List.set_cons_zero, List.set_cons_succ]))
                  | ((with_reducible show wpList _ _ _ (_ :: _) _ _); (with_reducible apply wpl_loadCH); (· first | exact cell_party | exact cell_i64); (· rfl); (· rfl); (· exact H); (· (repeat (first | (with_reducible exact List.mem_cons_self) | with_reducible apply List.mem_cons_of_mem))); (· (with_reducible first | exact flow_g0 .. | exact flow_g1 .. | exact flow_g2 ..)); (simp only [Act.put, List.setIfInBounds_toArray, List.set_cons_zero, List.set_cons_succ])))
                by_cases hk0 : k = 0
                · have g0 : decide ((k : Int) > 0) = false := decide_eq_false (by omega)
                  have g1 : decide (0 < k) = false := decide_eq_false (by omega)
                  refine wp_region_H H (by kernel_rfl) (by kernel_rfl) ?_
                  repeat (first | go_big_quiet_skip | fail | go_big_quiet_step (fail))
                  refine wpQuiet_nil ?_
                  clear H
                  intro _ H
                  go_wp2_with (go_skip)
                  refine ⟨⟨k + 1, by omega, by go_num, HO.out.next HX.out HK.out (fun y h => absurd h (by omega)), H.tail⟩, ?measure1⟩
                  case measure1 => simp [intOf]; omega
                · have g0 : decide ((k : Int) > 0) = true := decide_eq_true (by omega)
                  have g1 : decide (0 < k) = true := decide_eq_true (by omega)
                  have hjF : k - 1 < F.length := by rw [HL.out]; omega
                  have hy : F[k - 1]? = some F[k - 1] := List.getElem?_eq_getElem hjF
                  have hat := flwL_at F (k - 1) hjF
                  have hlenj : (k - 1) * 3 + 3 ≤ (flwL F).length := by rw [flwL_len]; omega
                  have w1 : wrap64 ((k : Int) - 1) = (k : Int) - 1 := IntWalk.wrap64_in _ ⟨by omega, by omega⟩
                  have hjn : k - 1 < n := by omega
                  generalize F[k - 1] = y at *
                  have hrowj : (((flwL F).drop ((k - 1) * 3)).take 3).toArray = flow (y.f : Int) (y.t : Int) y.n := by rw [hat]; rfl
                  have OA := (order8 y ⟨f, t, m⟩).ans
                  have HY := Lib.hid (show F[k - 1]? = some y from hy)
                  clear hat hjF hy
                  have HCF := Lib.hid (show ∃ o, cfF y ⟨f, t, m⟩ = o from ⟨_, rfl⟩)
                  obtain ⟨o, ho⟩ := HCF.out
                  rw [ho] at OA
                  have HOO := Lib.hid ho
                  clear ho HCF
                  simp only at OA
                  have RJ := Lib.hid (fun (pq : Nat) (w' : World) (h : Heap W (Cel pq (flow (f : Int) (t : Int) m) 32 :: l) w') => HR.out _ w' (fun x hx => List.mem_cons_of_mem _ hx) h)
                  by_cases q5 : o ≥ 0
                  · have d5 : decide (o ≥ 0) = true := decide_eq_true q5
                    have HN := Lib.hid (show ¬ MayD F from fun h => by have := (HMAY.out h).2 y (by omega) HY.out; rw [HOO.out] at this; omega)
                    clear q5
                    refine wp_region_H H (by kernel_rfl) (by kernel_rfl) ?_
                    repeat (first | go_big_quiet_skip | (first | ((with_reducible apply wpQ_loadRdR row_flow); (· rfl); (· rfl); (· exact RJ.out _); (· rfl); (· exact hlenj); (· decide); (· exact hrowj); (simp only [Act.put, List.setIfInBounds_toArray, List.set_cons_zero, List.set_cons_succ])) | ((with_reducible apply wpQ_loadRH row_flow); (· rfl); (· rfl); (· (repeat (first | (with_reducible exact List.mem_cons_self) | with_reducible apply List.mem_cons_of_mem))); (· (simp only [flow_sz, Nat.reduceAdd, Nat.reduceLeDiff, Nat.le_refl]; done)); (· with_reducible exact flow_all ..); (simp only [Act.put, List.setIfInBounds_toArray, List.set_cons_zero, List.set_cons_succ]))) | go_big_quiet_step ((with_reducible first | exact AnsH.quiet (by assumption) | exact Ans.quietH (by assumption))))
                    refine wpQuiet_nil ?_
                    clear H
                    intro _ H
                    go_wp2_with (go_skip)
                    go_ret
                    exact ⟨by rw [decide_eq_false HN.out]; rfl, H.tail⟩
                  · have d5 : decide (o ≥ 0) = false := decide_eq_false q5
                    have HN := Lib.hid (show cfF y ⟨f, t, m⟩ < 0 by rw [HOO.out]; omega)
                    clear q5
                    refine wp_region_H H (by kernel_rfl) (by kernel_rfl) ?_
                    repeat (first | go_big_quiet_skip | (first | ((with_reducible apply wpQ_loadRdR row_flow); (· rfl); (· rfl); (· exact RJ.out _); (· rfl); (· exact hlenj); (· decide); (· exact hrowj); (simp only [Act.put, List.setIfInBounds_toArray, List.set_cons_zero, List.set_cons_succ])) | ((with_reducible apply wpQ_loadRH row_flow); (· rfl); (· rfl); (· (repeat (first | (with_reducible exact List.mem_cons_self) | with_reducible apply List.mem_cons_of_mem))); (· (simp only [flow_sz, Nat.reduceAdd, Nat.reduceLeDiff, Nat.le_refl]; done)); (· with_reducible exact flow_all ..); (simp only [Act.put, List.setIfInBounds_toArray, List.set_cons_zero, List.set_cons_succ]))) | go_big_quiet_step ((with_reducible first | exact AnsH.quiet (by assumption) | exact Ans.quietH (by assumption))))
                    refine wpQuiet_nil ?_
                    clear H
                    intro _ H
                    go_wp2_with (go_skip)
                    refine ⟨⟨k + 1, by omega, by go_num, HO.out.next HX.out HK.out (fun z _ hz => by rw [HY.out] at hz; cases hz; exact HN.out), H.tail⟩, ?measure2⟩
                    case measure2 => simp [intOf]; omega
        · have q1f : mayP t = false := by simpa using q1
          rw [q1f] at P2
          have HN := Lib.hid (show ¬ MayD F from fun h => by have := (HMAY.out h).1; simp [okD, q1f] at this)
          clear q0 q1 q1f
          go_wp2_with (first
            | go_skip
            | ((with_reducible refine Ans.callH (by assumption) H ?_); clear H; intro _ H)
            | ((with_reducible show wpList _ _ _ (_ :: _) _ _); (with_reducible apply wpl_loadRdR row_flow); (· rfl); (· rfl); (· exact HRd.out); (· rfl); (· exact hlen); (· decide); (· exact hrow); (simp only [Act.put, List.setIfInBounds_toArray, List.set_cons_zero, List.set_cons_succ]))
            | ((with_reducible show wpList _ _ _ (_ :: _) _ _); (with_reducible apply wpl_allocRH row_flow); (· rfl); (· exact H); (clear H; intro px _ H); (simp only [Act.put, List.setIfInBounds_toArray, List.set_cons_zero, List.set_cons_succ]))
            | ((with_reducible show wpList _ _ _ (_ :: _) _ _); (with_reducible apply wpl_storeRH row_flow); (· rfl); (· rfl); (· rfl); (· with_reducible exact flow_cells ..); (· exact H); (· (repeat (first | (with_reducible exact List.mem_cons_self) | with_reducible apply List.mem_cons_of_mem))); (· (simp only [flow_sz, Nat.reduceAdd, Nat.reduceLeDiff, Nat.le_refl]; done)); (· with_reducible exact flow_splice ..); (· (repeat (first | (with_reducible exact Repl.here) | with_reducible apply Repl.there))); (clear H; intro _ H); (simp only [Act.put, List.setIfInBounds_toArray, List.set_cons_zero, List.set_cons_succ]))
            | ((with_reducible show wpList _ _ _ (_ :: _) _ _); (with_reducible apply wpl_loadCH); (· first | exact cell_party | exact cell_i64); (· rfl); (· rfl); (· exact H); (· (repeat (first | (with_reducible exact List.mem_cons_self) | with_reducible apply List.mem_cons_of_mem))); (· (with_reducible first | exact flow_g0 .. | exact flow_g1 .. | exact flow_g2 ..)); (simp only [Act.put, List.setIfInBounds_toArray, List.set_cons_zero, List.set_cons_succ])))
          go_ret
          exact ⟨by rw [decide_eq_false HN.out]; rfl, H.tail⟩
      · have q0f : mayP f = false := by simpa using q0
        rw [q0f] at P1
        have HN := Lib.hid (show ¬ MayD F from fun h => by have := (HMAY.out h).1; simp [okD, q0f] at this)
        clear q0 q0f P2
        go_wp2_with (first
          | go_skip
          | ((with_reducible refine Ans.callH (by assumption) H ?_); clear H; intro _ H)
          | ((with_reducible show wpList _ _ _ (_ :: _) _ _); (with_reducible apply wpl_loadRdR row_flow); (· rfl); (· rfl); (· exact HRd.out); (· rfl); (· exact hlen); (· decide); (· exact hrow); (simp only [Act.put, List.setIfInBounds_toArray, List.set_cons_zero, List.set_cons_succ]))
          | ((with_reducible show wpList _ _ _ (_ :: _) _ _); (with_reducible apply wpl_allocRH row_flow); (· rfl); (· exact H); (clear H; intro px _ H); (simp only [Act.put, List.setIfInBounds_toArray, List.set_cons_zero, List.set_cons_succ]))
          | ((with_reducible show wpList _ _ _ (_ :: _) _ _); (with_reducible apply wpl_storeRH row_flow); (· rfl); (· rfl); (· rfl); (· with_reducible exact flow_cells ..); (· exact H); (· (repeat (first | (with_reducible exact List.mem_cons_self) | with_reducible apply List.mem_cons_of_mem))); (· (simp only [flow_sz, Nat.reduceAdd, Nat.reduceLeDiff, Nat.le_refl]; done)); (· with_reducible exact flow_splice ..); (· (repeat (first | (with_reducible exact Repl.here) | with_reducible apply Repl.there))); (clear H; intro _ H); (simp only [Act.put, List.setIfInBounds_toArray, List.set_cons_zero, List.set_cons_succ]))
          | ((with_reducible show wpList _ _ _ (_ :: _) _ _); (with_reducible apply wpl_loadCH); (· first | exact cell_party | exact cell_i64); (· rfl); (· rfl); (· exact H); (· (repeat (first | (with_reducible exact List.mem_cons_self) | with_reducible apply List.mem_cons_of_mem))); (· (with_reducible first | exact flow_g0 .. | exact flow_g1 .. | exact flow_g2 ..)); (simp only [Act.put, List.setIfInBounds_toArray, List.set_cons_zero, List.set_cons_succ])))
        go_ret
        exact ⟨by rw [decide_eq_false HN.out]; rfl, H.tail⟩
    · obtain rfl : k = n := by omega
      have HN := Lib.hid (show MayD F from by unfold MayD; rw [HL.out]; exact HO.out)
      go_wp2_with (go_skip)
      go_ret
      exact ⟨by rw [decide_eq_true HN.out]; rfl, H⟩
end
end Go.Proofs.Ytgobnamhdkbbeaa

/- paths.search: once through all edges. -/
namespace Go.Proofs.Ytgobnamhdkbbeaa
open Go.RowKit
set_option linter.unusedSimpArgs false
set_option linter.unusedVariables false
/-- An edge with a cost. -/
structure Edg where
  f : Nat
  t : Nat
  c : Int
def edgV (x : Edg) : List Value := [.int .u8 (x.f : Int), .int .u8 (x.t : Int), .int .i8 x.c]
def edgL (F : List Edg) : List Value := F.flatMap edgV
theorem edgL_len (F : List Edg) : (edgL F).length = F.length * 3 := by
  induction F with
  | nil => rfl
  | cons x F ih => simp only [edgL, List.flatMap_cons, List.length_append] at *; rw [ih]; simp [edgV, Nat.add_mul]; omega
theorem edgL_at (F : List Edg) (i : Nat) (h : i < F.length) : ((edgL F).drop (i * 3)).take 3 = edgV F[i] := by
  induction F generalizing i with
  | nil => simp at h
  | cons x F ih =>
    rcases i with _ | i
    · simp [edgL, edgV]
    · have : (i + 1) * 3 = 3 + i * 3 := by omega
      rw [this, ← List.drop_drop]
      simp only [List.length_cons] at h
      have := ih i (by omega)
      simpa [edgL, edgV] using this
theorem edgL_app (F G : List Edg) : edgL (F ++ G) = edgL F ++ edgL G := by simp [edgL]
/-- Such as can be. -/
def EdgOk (x : Edg) : Prop := x.f ≤ 255 ∧ x.t ≤ 255 ∧ -128 ≤ x.c ∧ x.c ≤ 127
def edg (f : Int) (t : Int) (c : Int) : Array Value := #[.int .u8 f, .int .u8 t, .int .i8 c]
section
variable (f : Int) (t : Int) (c : Int)
theorem edg_sz : (edg f t c).size = 3 := rfl
theorem edg_g0 : (edg f t c)[0]? = some (.int .u8 f) := rfl
theorem edg_s0 (v : Int) : (edg f t c).setIfInBounds 0 (.int .u8 v) = edg v t c := rfl
theorem edg_g1 : (edg f t c)[1]? = some (.int .u8 t) := rfl
theorem edg_s1 (v : Int) : (edg f t c).setIfInBounds 1 (.int .u8 v) = edg f v c := rfl
theorem edg_g2 : (edg f t c)[2]? = some (.int .i8 c) := rfl
theorem edg_s2 (v : Int) : (edg f t c).setIfInBounds 2 (.int .i8 v) = edg f t v := rfl
end
theorem edg_all (f t c : Int) : (edg f t c).extract 0 (0 + 3) = edg f t c := by simp [edg]
theorem edg_cells (f t c : Int) : Cells 3 (edg f t c) := ⟨rfl, by simp [edg, Value.oneCell']⟩
theorem edg_splice (a b d f t c : Int) : splice (edg a b d) 0 (edg f t c) = edg f t c := splice_all rfl
theorem row_edg : RowTy 194 3 (edg 0 0 0) := ⟨⟨_, Try.underlying194, rfl⟩, by kernel_rfl, by kernel_rfl⟩
theorem cell_i8 : CellTy 192 := ⟨⟨_, Try.underlying192, rfl⟩, by kernel_rfl⟩
/-- A search's cells: distances, and who is ahead. -/
def sr (D : Nat → Int) (P : Nat → Nat) : Array Value := tab 34 fun i => if i < 17 then .int .i64 (D i) else .int .u8 (P (i - 17) : Int)
theorem sr_sz (D : Nat → Int) (P : Nat → Nat) : (sr D P).size = 34 := tab_size ..
theorem sr_getD (D : Nat → Int) (P : Nat → Nat) {i : Nat} (h : i < 17) : (sr D P)[i]? = some (.int .i64 (D i)) := by
  unfold sr
  rw [tab_get _ (by omega), if_pos h]
theorem sr_getP (D : Nat → Int) (P : Nat → Nat) {i : Nat} (h : i < 17) : (sr D P)[17 + i]? = some (.int .u8 (P i : Int)) := by
  unfold sr
  rw [tab_get _ (by omega), if_neg (by omega), Nat.add_sub_cancel_left]
theorem sr_setD (D : Nat → Int) (P : Nat → Nat) {i : Nat} (h : i < 17) (v : Int) : (sr D P).setIfInBounds i (.int .i64 v) = sr (updN D i v) P := by
  unfold sr
  rw [tab_set _ _ (by omega)]
  apply tab_congr
  intro j hj
  unfold updN
  by_cases e : j = i
  · subst e; rw [if_pos rfl, if_pos h, if_pos rfl]
  · rw [if_neg e]
    by_cases e2 : j < 17
    · rw [if_pos e2, if_pos e2, if_neg e]
    · rw [if_neg e2, if_neg e2]
theorem sr_setP (D : Nat → Int) (P : Nat → Nat) {i : Nat} (h : i < 17) (v : Nat) : (sr D P).setIfInBounds (17 + i) (.int .u8 (v : Int)) = sr D (updN P i v) := by
  unfold sr
  rw [tab_set _ _ (by omega)]
  apply tab_congr
  intro j hj
  unfold updN
  by_cases e : j = 17 + i
  · subst e; rw [if_pos rfl, if_neg (by omega), if_pos (by omega)]
  · rw [if_neg e]
    by_cases e2 : j < 17
    · rw [if_pos e2, if_pos e2]
    · rw [if_neg e2, if_neg e2, if_neg (by omega)]
/-- What is known amid a search. -/
structure Srch where
  D : Nat → Int
  P : Nat → Nat
  last : Nat
def relax (s : Srch) (e : Edg) : Srch := if s.D e.f + e.c < s.D e.t then ⟨updN s.D e.t (s.D e.f + e.c), updN s.P e.t e.f, e.t⟩ else s
def onceS (F : List Edg) (s : Srch) : Srch := F.foldl relax ⟨s.D, s.P, 0⟩
theorem relax_yes {s : Srch} {e : Edg} (h : s.D e.f + e.c < s.D e.t) : relax s e = ⟨updN s.D e.t (s.D e.f + e.c), updN s.P e.t e.f, e.t⟩ := if_pos h
theorem relax_no {s : Srch} {e : Edg} (h : ¬ s.D e.f + e.c < s.D e.t) : relax s e = s := if_neg h
/-- Distances within a bound. -/
def Bnd (B : Nat) (s : Srch) : Prop := ∀ i, -(B : Int) ≤ s.D i ∧ s.D i ≤ 0
theorem Bnd.relax {B : Nat} {s : Srch} {e : Edg} (h : Bnd B s) (hc : -128 ≤ e.c) : Bnd (B + 128) (relax s e) := by
  intro i
  unfold Proofs.Ytgobnamhdkbbeaa.relax
  have hi := h i
  have hf := h e.f
  have ht := h e.t
  split
  · simp only [updN]
    split
    · omega
    · omega
  · omega
def OnceLoop (W : World) (l : List Thing) (p : Nat) (F : List Edg) (s0 : Srch) (B en : Nat) (v i : Value) (wr : World) : Prop :=
  ∃ (k : Nat) (s : Srch), k ≤ en ∧ i = .int .i64 k ∧ v = .int .u8 (s.last : Int) ∧ onceS F s0 = (F.drop k).foldl relax s ∧ Bnd (B + 128 * k) s ∧ Heap W (Cel p (sr s.D s.P) 199 :: l) wr
section
variable {W w : World} {l : List Thing}
set_option maxRecDepth 100000
set_option maxHeartbeats 4000000
theorem once_H (p : Nat) (ea : Option Addr) (en ec : Nat) (F : List Edg) (hl : F.length = en) (hF : ∀ x ∈ F, x.f < 17 ∧ x.t < 17 ∧ -128 ≤ x.c ∧ x.c ≤ 127) (R : ∀ w', Heap W l w' → Rd w' ea (edgL F)) (s0 : Srch) (B : Nat) (hB : Bnd B s0) (hBn : B + 128 * en ≤ 1000000000000)
    (H : Heap W (Cel p (sr s0.D s0.P) 199 :: l) w) :
    Calls Try.prog 137 #[.pointer (some ⟨p, 0, none⟩), .slice ea en ec] w fun e w' => e = .returned (.int .u8 ((onceS F s0).last : Int)) ∧ Heap W (Cel p (sr (onceS F s0).D (onceS F s0).P) 199 :: l) w' := by
  have HL := Lib.hid hl
  have HF := Lib.hid hF
  have HR := Lib.hid R
  have HB := Lib.hid hB
  clear hl hF R hB
  go_enter Try.func137, Try.ntmps137
  go_wp2_with (go_skip)
  have H0 := H
  clear H
  go_loopw [5, 11] (fun v i wr => OnceLoop W l p F s0 B en v i wr) (fun _ i _ => en - (intOf i).toNat)
  case atStart => exact ⟨0, ⟨s0.D, s0.P, 0⟩, Nat.zero_le _, rfl, rfl, rfl, HB.out, H0⟩
  case round =>
    obtain ⟨k, s, hk, rfl, rfl, hG, hb, H'⟩ := hrel
    clear H0
    have H := H'
    clear H'
    by_cases hlt : k < en
    · have hkF : k < F.length := by rw [HL.out]; exact hlt
      have hok := HF.out F[k] (List.getElem_mem hkF)
      have hat := edgL_at F k hkF
      have hlen : k * 3 + 3 ≤ (edgL F).length := by rw [edgL_len]; omega
      rw [List.drop_eq_getElem_cons hkF, List.foldl_cons] at hG
      generalize F[k] = x at *
      have hb2 := hb.relax (e := x) hok.2.2.1
      obtain ⟨a, b, n⟩ := x
      obtain ⟨h1, h2, h3, h4⟩ := hok
      simp only at h1 h2 h3 h4
      have hrow : (((edgL F).drop (k * 3)).take 3).toArray = edg a b n := by rw [hat]; rfl
      obtain ⟨eb, eo, rfl, _⟩ := (HR.out _ H.tail).lt (by omega)
      have HG := Lib.hid hG
      have HB2 := Lib.hid hb2
      have hba := hb a
      have hbb := hb b
      clear hG hat hkF hb hb2
      have hw1 : wrap64 n = n := IntWalk.wrap64_in _ ⟨by omega, by omega⟩
      have hw2 : wrap64 (s.D a + n) = s.D a + n := IntWalk.wrap64_in _ ⟨by omega, by omega⟩
      go_wp2_with (first
        | go_skip
        | ((with_reducible show wpList _ _ _ (_ :: _) _ _); (with_reducible apply wpl_loadRdR row_edg); (· rfl); (· rfl); (· exact HR.out _ H.tail); (· rfl); (· exact hlen); (· decide); (· exact hrow); (simp only [Act.put, List.setIfInBounds_toArray, List.set_cons_zero, List.set_cons_succ]))
        | ((with_reducible show wpList _ _ _ (_ :: _) _ _); (with_reducible apply wpl_allocRH row_edg); (· rfl); (· exact H); (clear H; intro px _ H); (simp only [Act.put, List.setIfInBounds_toArray, List.set_cons_zero, List.set_cons_succ]))
        | ((with_reducible show wpList _ _ _ (_ :: _) _ _); (with_reducible apply wpl_storeRH row_edg); (· rfl); (· rfl); (· rfl); (· with_reducible exact edg_cells ..); (· exact H); (· (repeat (first | (with_reducible exact List.mem_cons_self) | with_reducible apply List.mem_cons_of_mem))); (· (simp only [edg_sz, Nat.reduceAdd, Nat.reduceLeDiff, Nat.le_refl]; done)); (· with_reducible exact edg_splice ..); (· (repeat (first | (with_reducible exact Repl.here) | with_reducible apply Repl.there))); (clear H; intro _ H); (simp only [Act.put, List.setIfInBounds_toArray, List.set_cons_zero, List.set_cons_succ])))
      refine wp_region_H H (by kernel_rfl) (by kernel_rfl) ?_
      repeat (first | go_big_quiet_skip | ((with_reducible apply wpQ_loadCH); (· first | exact cell_party | exact cell_i8); (· rfl); (· rfl); (· (repeat (first | (with_reducible exact List.mem_cons_self) | with_reducible apply List.mem_cons_of_mem))); (· (with_reducible first | exact edg_g0 .. | exact edg_g1 .. | exact edg_g2 ..)); (simp only [Act.put, List.setIfInBounds_toArray, List.set_cons_zero, List.set_cons_succ])) | ((with_reducible apply wpQ_loadCH); (· exact cell_int); (· rfl); (· rfl); (· (repeat (first | (with_reducible exact List.mem_cons_self) | with_reducible apply List.mem_cons_of_mem))); (· first | exact sr_getD _ _ h1 | exact sr_getD _ _ h2); (simp only [Act.put, List.setIfInBounds_toArray, List.set_cons_zero, List.set_cons_succ])) | go_big_quiet_step (fail))
      refine wpQuiet_nil ?_
      clear H
      intro _ H
      go_wp2_with (go_skip)
      refine wp_region_H H (by kernel_rfl) (by kernel_rfl) ?_
      repeat (first | go_big_quiet_skip | ((with_reducible apply wpQ_loadCH); (· first | exact cell_party | exact cell_i8); (· rfl); (· rfl); (· (repeat (first | (with_reducible exact List.mem_cons_self) | with_reducible apply List.mem_cons_of_mem))); (· (with_reducible first | exact edg_g0 .. | exact edg_g1 .. | exact edg_g2 ..)); (simp only [Act.put, List.setIfInBounds_toArray, List.set_cons_zero, List.set_cons_succ])) | ((with_reducible apply wpQ_loadCH); (· exact cell_int); (· rfl); (· rfl); (· (repeat (first | (with_reducible exact List.mem_cons_self) | with_reducible apply List.mem_cons_of_mem))); (· first | exact sr_getD _ _ h1 | exact sr_getD _ _ h2); (simp only [Act.put, List.setIfInBounds_toArray, List.set_cons_zero, List.set_cons_succ])) | go_big_quiet_step (fail))
      refine wpQuiet_nil ?_
      clear H
      intro _ H
      by_cases hc : s.D a + n < s.D b
      · have HC := Lib.hid (relax_yes (s := s) (e := ⟨a, b, n⟩) hc)
        go_wp2_with (go_skip)
        replace H := H.perm (.swap _ _ _)
        refine wp_region_O [14, 18] [0, 1, 2, 3, 4, 5, 6, 7, 8, 9, 10, 11, 12, 13, 15, 16, 14, 17, 18, 19] (fun l0 => ∃ pre, l0 = pre ++ (Cel px (edg a b n) 194 :: l)) H ⟨[_], rfl⟩ (by kernel_rfl) (by kernel_rfl) ?_
        iterate 16 (apply wpO_step; (· rfl); (· rfl); (· rfl); (· exact Nat.le_of_ble_eq_true rfl); (· rintro l0 ⟨pre, rfl⟩ w0 H0; (first | go_big_quiet_skip | ((with_reducible apply wpQ_loadCH); (· first | exact cell_party | exact cell_i8); (· rfl); (· rfl); (· ((refine List.mem_append_right _ ?_); (repeat (first | (with_reducible exact List.mem_cons_self) | with_reducible apply List.mem_cons_of_mem)))); (· (with_reducible first | exact edg_g0 .. | exact edg_g1 .. | exact edg_g2 ..)); (simp only [Act.put, List.setIfInBounds_toArray, List.set_cons_zero, List.set_cons_succ])) | go_big_quiet_step (fail)); (refine wpQuiet_nil ?_); (simp only [Array.getD_eq_getD_getElem?, List.getElem?_toArray, List.getElem?_cons_succ, List.getElem?_cons_zero, Option.getD_some]; rfl)); (simp only [Act.put, List.setIfInBounds_toArray, List.set_cons_zero, List.set_cons_succ]))
        ((with_reducible apply wpO_storeI); (· exact cell_int); (· rfl); (· rfl); (· rfl); (· rfl); (· rfl); (· (repeat (first | (with_reducible exact List.mem_cons_self) | with_reducible apply List.mem_cons_of_mem))); (· (rw [sr_sz]; omega)); (· exact sr_setD _ _ h2 _); (· (repeat (first | (with_reducible exact Repl.here) | with_reducible apply Repl.there))); (· exact ⟨[_], rfl⟩); (simp only [Act.put, List.setIfInBounds_toArray, List.set_cons_zero, List.set_cons_succ]))
        (apply wpO_step; (· rfl); (· rfl); (· rfl); (· exact Nat.le_of_ble_eq_true rfl); (· rintro l0 ⟨pre, rfl⟩ w0 H0; (first | go_big_quiet_skip | fail | go_big_quiet_step (fail)); (refine wpQuiet_nil ?_); (simp only [Array.getD_eq_getD_getElem?, List.getElem?_toArray, List.getElem?_cons_succ, List.getElem?_cons_zero, Option.getD_some]; rfl)); (simp only [Act.put, List.setIfInBounds_toArray, List.set_cons_zero, List.set_cons_succ]))
        ((with_reducible apply wpO_storeI); (· exact cell_party); (· rfl); (· rfl); (· rfl); (· rfl); (· rfl); (· (repeat (first | (with_reducible exact List.mem_cons_self) | with_reducible apply List.mem_cons_of_mem))); (· (rw [sr_sz]; omega)); (· exact sr_setP _ _ h2 _); (· (repeat (first | (with_reducible exact Repl.here) | with_reducible apply Repl.there))); (· exact ⟨[_], rfl⟩); (simp only [Act.put, List.setIfInBounds_toArray, List.set_cons_zero, List.set_cons_succ]))
        (apply wpO_step; (· rfl); (· rfl); (· rfl); (· exact Nat.le_of_ble_eq_true rfl); (· rintro l0 ⟨pre, rfl⟩ w0 H0; (first | go_big_quiet_skip | fail | go_big_quiet_step (fail)); (refine wpQuiet_nil ?_); (simp only [Array.getD_eq_getD_getElem?, List.getElem?_toArray, List.getElem?_cons_succ, List.getElem?_cons_zero, Option.getD_some]; rfl)); (simp only [Act.put, List.setIfInBounds_toArray, List.set_cons_zero, List.set_cons_succ]))
        (refine wpO_nil ?_; clear H; intro _ H)
        go_wp2_with (go_skip)
        refine ⟨⟨k + 1, _, by omega, by go_num, ?_, HG.out, ?_, ?_⟩, ?measure⟩
        · rw [HC.out]
        · have := HB2.out
          rw [show B + 128 * (k + 1) = B + 128 * k + 128 by omega]
          exact this
        · rw [HC.out]
          exact H.drop (.there .here)
        case measure => simp [intOf]; omega
      · have HC := Lib.hid (relax_no (s := s) (e := ⟨a, b, n⟩) hc)
        go_wp2_with (go_skip)
        refine ⟨⟨k + 1, _, by omega, by go_num, ?_, HG.out, ?_, ?_⟩, ?measure2⟩
        · rw [HC.out]
        · have := HB2.out
          rw [show B + 128 * (k + 1) = B + 128 * k + 128 by omega]
          exact this
        · rw [HC.out]
          exact H.tail
        case measure2 => simp [intOf]; omega
    · obtain rfl : k = en := by omega
      rw [List.drop_of_length_le (by rw [HL.out]; omega)] at hG
      have HG := Lib.hid hG
      clear hG
      go_wp2_with (go_skip)
      go_ret
      rw [HG.out]
      exact ⟨rfl, H⟩
end
end Go.Proofs.Ytgobnamhdkbbeaa

/- slices' functions of parties: Index, Min. -/
namespace Go.Proofs.Ytgobnamhdkbbeaa
open Go.RowKit
set_option linter.unusedSimpArgs false
set_option linter.unusedVariables false
theorem rd_party {w : World} {g o k x : Nat} {L : List Nat} (R : Rd w (some ⟨g, o, none⟩) (L.map pv)) (h : L[k]? = some x) : w.cell? ⟨g, o + k, none⟩ = some (.int .u8 (x : Int)) := by
  obtain ⟨hk, hx⟩ := List.getElem?_eq_some_iff.1 h
  obtain ⟨b, o', he, hc⟩ := R k (by simpa using hk)
  cases he
  rw [hc]
  simp [pv, hx]
theorem idxOf_le_at {x : Nat} : ∀ {L : List Nat} {k : Nat} (h : k < L.length), L[k] = x → L.idxOf x ≤ k
  | [], _, h, _ => by simp at h
  | y :: L, 0, h, e => by simp at e; subst e; simp
  | y :: L, k + 1, h, e => by
    rw [List.idxOf_cons]
    have := idxOf_le_at (L := L) (k := k) (by simpa using h) (by simpa using e)
    cases y == x <;> simp <;> omega
def minT (L : List Nat) (k : Nat) : Nat := (L.take k).foldl min (L.headD 0)
def minL (L : List Nat) : Nat := L.foldl min (L.headD 0)
theorem minT_succ {L : List Nat} {k x : Nat} (h : L[k]? = some x) : minT L (k + 1) = min (minT L k) x := by
  unfold minT
  rw [List.take_add_one, h]
  simp
theorem minT_all (L : List Nat) {k : Nat} (h : L.length ≤ k) : minT L k = minL L := by
  unfold minT minL
  rw [List.take_of_length_le h]
theorem minT_one {L : List Nat} {x : Nat} (h : L[0]? = some x) : minT L 1 = x := by
  cases L with
  | nil => simp at h
  | cons y L => simp at h; subst h; simp [minT]
theorem minT_le (L : List Nat) (hL : ∀ x ∈ L, x ≤ 255) : ∀ k, minT L k ≤ 255 ∨ L = [] := by
  intro k
  cases L with
  | nil => exact .inr rfl
  | cons y L =>
    left
    have : ∀ (M : List Nat) (a : Nat), a ≤ 255 → M.foldl min a ≤ 255 := by
      intro M
      induction M with
      | nil => intro a h; exact h
      | cons z M ih => intro a h; exact ih _ (Nat.le_trans (Nat.min_le_left _ _) h)
    exact this _ _ (hL y List.mem_cons_self)
section
variable {W w : World} {l : List Thing}
set_option maxRecDepth 100000
set_option maxHeartbeats 2000000
theorem index_H (g o n c : Nat) (L : List Nat) (x : Nat) (hl : L.length = n) (hn : n ≤ 9223372036854775807) (hL : ∀ y ∈ L, y ≤ 255) (hx : x ∈ L) (R : ∀ w', Heap W l w' → Rd w' (some ⟨g, o, none⟩) (L.map pv)) :
    AnsH W l 139 #[.slice (some ⟨g, o, none⟩) n c, .int .u8 (x : Int)] (.int .i64 (L.idxOf x : Int)) := by
  intro w H
  have hi : L.idxOf x < n := by rw [← hl]; exact List.idxOf_lt_length_of_mem hx
  have HR := Lib.hid R
  have HL := Lib.hid hl
  have HLs := Lib.hid hL
  have HX := Lib.hid hx
  clear R hl hL hx
  go_enter Try.func139, Try.ntmps139
  go_wp2_with (go_skip)
  have H0 := H
  clear H
  go_loopw [8] (fun i wr => ∃ k : Nat, k ≤ L.idxOf x ∧ i = .int .i64 k ∧ Heap W l wr) (fun i _ => n - (intOf i).toNat)
  case atStart => exact ⟨0, Nat.zero_le _, rfl, H0⟩
  case round =>
    obtain ⟨k, hk, rfl, H'⟩ := hrel
    clear H0
    have H := H'
    clear H'
    have hkn : k < n := by omega
    have hkL : k < L.length := by rw [HL.out]; exact hkn
    have hg : L[k]? = some L[k] := List.getElem?_eq_getElem hkL
    have hy := HLs.out L[k] (List.getElem_mem hkL)
    by_cases he : k = L.idxOf x
    · have hgx : L[k]? = some x := by
        rw [hg]
        have h1 : L.idxOf x < L.length := by rw [← he]; exact hkL
        have h2 := List.getElem_idxOf h1
        congr 1
        rw [← h2]
        congr 1
      have HE := Lib.hid he
      clear he hg hy
      go_wp2_with (first
        | go_skip
        | ((with_reducible show wpList _ _ _ (_ :: _) _ _); (with_reducible apply wpl_loadCell cell_party); (· rfl); (· rfl); (· exact rd_party (HR.out _ H) hgx); (simp only [Act.put, List.setIfInBounds_toArray, List.set_cons_zero, List.set_cons_succ])))
      go_ret
      rw [HE.out]
      exact ⟨rfl, H⟩
    · have hne : L[k] ≠ x := fun e => by
        have h1 := idxOf_le_at hkL e
        omega
      generalize L[k] = y at *
      have e1 : ((x : Int) == (y : Int)) = false := by simp; omega
      have e2 : decide ((x : Int) = (y : Int)) = false := by simp; omega
      have HE := Lib.hid he
      clear he
      go_wp2_with (first
        | go_skip
        | ((with_reducible show wpList _ _ _ (_ :: _) _ _); (with_reducible apply wpl_loadCell cell_party); (· rfl); (· rfl); (· exact rd_party (HR.out _ H) hg); (simp only [Act.put, List.setIfInBounds_toArray, List.set_cons_zero, List.set_cons_succ])))
      go_roundw
      case rel => exact ⟨k + 1, by have := HE.out; omega, by go_num, H⟩
      case measure => simp [intOf]; omega
theorem min_H (g o n c : Nat) (L : List Nat) (hl : L.length = n) (h1 : 1 ≤ n) (hn : n ≤ 9223372036854775807) (hL : ∀ y ∈ L, y ≤ 255) (R : ∀ w', Heap W l w' → Rd w' (some ⟨g, o, none⟩) (L.map pv)) :
    AnsH W l 140 #[.slice (some ⟨g, o, none⟩) n c] (.int .u8 (minL L : Int)) := by
  intro w H
  have HR := Lib.hid R
  have HL := Lib.hid hl
  have HLs := Lib.hid hL
  have h0 : 0 < L.length := by omega
  have hg0 : L[0]? = some L[0] := List.getElem?_eq_getElem h0
  have HM := Lib.hid (minT_one hg0)
  have hx0 := hL _ (List.getElem_mem h0)
  generalize L[0] = x0 at *
  clear R hl hL h0
  go_enter Try.func140, Try.ntmps140
  go_wp2_with (first
    | go_skip
    | ((with_reducible show wpList _ _ _ (_ :: _) _ _); (with_reducible apply wpl_loadCell cell_party); (· rfl); (· rfl); (· exact rd_party (HR.out _ H) hg0); (simp only [Act.put, List.setIfInBounds_toArray, List.set_cons_zero, List.set_cons_succ])))
  have H0 := H
  clear H
  go_loopw [3, 4] (fun v i wr => ∃ k : Nat, 1 ≤ k ∧ k ≤ n ∧ i = .int .i64 k ∧ v = .int .u8 (minT L k : Int) ∧ Heap W l wr) (fun _ i _ => n - (intOf i).toNat)
  case atStart => exact ⟨1, Nat.le_refl _, h1, rfl, by rw [HM.out], H0⟩
  case round =>
    obtain ⟨k, hk1, hkn, rfl, rfl, H'⟩ := hrel
    clear H0
    have H := H'
    clear H'
    by_cases hlt : k < n
    · have hkL : k < L.length := by rw [HL.out]; exact hlt
      have hg : L[k]? = some L[k] := List.getElem?_eq_getElem hkL
      have hy := HLs.out L[k] (List.getElem_mem hkL)
      have HS := Lib.hid (minT_succ hg)
      generalize L[k] = y at *
      go_wp2_with (first
        | go_skip
        | ((with_reducible show wpList _ _ _ (_ :: _) _ _); (with_reducible apply wpl_loadCell cell_party); (· rfl); (· rfl); (· exact rd_party (HR.out _ H) hg); (simp only [Act.put, List.setIfInBounds_toArray, List.set_cons_zero, List.set_cons_succ])))
      refine ⟨⟨k + 1, by omega, by omega, by go_num, ?_, H⟩, ?measure⟩
      · rw [HS.out]
        by_cases hc : y < minT L k
        · rw [if_pos hc, Nat.min_eq_right (by omega)]
        · rw [if_neg hc, Nat.min_eq_left (by omega)]
      case measure => simp [intOf]; omega
    · obtain rfl : k = n := by omega
      have HA := Lib.hid (minT_all L (k := k) (by rw [HL.out]; omega))
      go_wp2_with (go_skip)
      go_ret
      rw [HA.out]
      exact ⟨rfl, H⟩
end
end Go.Proofs.Ytgobnamhdkbbeaa
