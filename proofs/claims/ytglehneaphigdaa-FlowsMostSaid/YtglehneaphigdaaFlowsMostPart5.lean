/- FlowsMost: part 5 of its proof: HeapCalls, HeapSlide, Full, Ref05, Append. -/
import Derived.Test.YtglehneaphigdaaFlowsMostPart4
/- A region that draws its order, over a memory of things, with loud operations in one order: stores, makes, and calls that make or change things. A quiet operation must yield the same while some things stay ('base', a list that may grow behind a loud one): one walk in an order of one's own serves every order. -/
namespace Go.Proofs.Ytglehneaphigdaa
open Go.RowKit
set_option linter.unusedVariables false
def Keeps (base l : List Thing) : Prop := ∀ t, t ∈ base → t ∈ l
section
variable {P : Program} {ops : Array Oper} {md : Region.Mode} {W : World}
def YieldsK (P : Program) (ops : Array Oper) (W : World) (base : List Thing) (o : Oper) (v : Value) (a : Act) : Prop := ∀ l, Keeps base l → ∀ (w : World) (H : Heap W l w), YieldsIn P ops (fun w' => ∃ d, w' = H.any d) o v a
theorem YieldsK.of_same {base : List Thing} {o : Oper} {v : Value} {a a' : Act} (hy : YieldsK P ops W base o v a) (he : execOp a'.eval o = execOp a.eval o)
    (hw : Region.wanted o (yielded ops a'.tmps) = Region.wanted o (yielded ops a.tmps)) : YieldsK P ops W base o v a' := fun l hl w H => (hy l hl w H).of_same he hw
theorem YieldsK.more {base base' : List Thing} {o : Oper} {v : Value} {a : Act} (hy : YieldsK P ops W base o v a) (h : Keeps base base') : YieldsK P ops W base' o v a := fun l hl w H => hy l (fun t ht => hl t (h t ht)) w H
def LoudK (P : Program) (ops : Array Oper) (W : World) (o : Oper) (l : List Thing) (a : Act) (k : List Thing → Value → Prop) : Prop :=
  Region.wanted o (yielded ops a.tmps) = true ∧ ∀ w, Heap W l w →
    (∃ l' u w', ((execOp a.eval o).run P w = .ok (.value u) w' ∨ ((execOp a.eval o).run P w = .ok .skip w' ∧ u = undef)) ∧ Heap W l' w' ∧ k l' u) ∨
    (∃ f args w0, (execOp a.eval o).run P w = .ok (.enter f args) w0 ∧ Calls P f args w0 fun e w' => ∃ l' u, e = .returned u ∧ Heap W l' w' ∧ k l' u)
theorem LoudK.mono {o : Oper} {l : List Thing} {a : Act} {k k' : List Thing → Value → Prop} (h : LoudK P ops W o l a k) (hk : ∀ l' u, k l' u → k' l' u) : LoudK P ops W o l a k' :=
  ⟨h.1, fun w H => by
    rcases h.2 w H with ⟨l', u, w', h1, h2, h3⟩ | ⟨f, args, w0, h1, h2⟩
    · exact .inl ⟨l', u, w', h1, h2, hk _ _ h3⟩
    · exact .inr ⟨f, args, w0, h1, h2.mono fun e w' ⟨l', u, h3, h4, h5⟩ => ⟨l', u, h3, h4, hk _ _ h5⟩⟩⟩
theorem LoudK.of_same {o : Oper} {l : List Thing} {a a' : Act} {k : List Thing → Value → Prop} (h : LoudK P ops W o l a k) (he : execOp a'.eval o = execOp a.eval o)
    (hw : Region.wanted o (yielded ops a'.tmps) = Region.wanted o (yielded ops a.tmps)) : LoudK P ops W o l a' k := ⟨by rw [hw]; exact h.1, fun w H => by rw [he]; exact h.2 w H⟩
def WholeK (P : Program) (md : Region.Mode) (ops : Array Oper) (W : World) (K : List Thing → Act → Prop) : Nat → List Thing → List Thing → Array Bool → Act → Prop
  | 0, base, l, listed, a => Region.ready md ops listed = [] ∧ K l a
  | f + 1, base, l, listed, a => Region.ready md ops listed ≠ [] ∧ ∀ i ∈ Region.ready md ops listed, ∃ o, ops[i]? = some o ∧
      ((∃ v, YieldsK P ops W base o v a ∧ WholeK P md ops W K f base l (listed.setIfInBounds i true) (a.put o.dst v)) ∨
       LoudK P ops W o l a fun l' u => ∃ base', Keeps base base' ∧ Keeps base' l' ∧ WholeK P md ops W K f base' l' (listed.setIfInBounds i true) (a.put o.dst u))
theorem WholeK.any {K : List Thing → Act → Prop} {Q : Exit → Act → World → Prop} (hK : ∀ l a w, Heap W l w → K l a → Q .normal a w) :
    ∀ (f : Nat) (base l : List Thing) (listed : Array Bool) (a : Act) (w : World), Keeps base l → Heap W l w → WholeK P md ops W K f base l listed a → wpAny P md ops Q f listed a w := by
  intro f
  induction f with
  | zero => intro base l listed a w _ H h; exact ⟨h.1, hK _ _ _ H h.2⟩
  | succ f ih =>
    intro base l listed a w hG H h
    refine ⟨fun h0 => absurd h0 h.1, fun i hi => ?_⟩
    obtain ⟨o, ho, h⟩ := h.2 i hi
    rcases h with ⟨v, hy, h⟩ | h
    · refine wpOp_of_qOp (C := fun w' => ∃ d, w' = H.any d) (H.any_of H) (fun a' w' hw' ha' => ?_) ((hy l hG w H).qOp ho (K := fun a' => a' = a.put o.dst v) rfl)
      obtain ⟨d, rfl⟩ := hw'
      subst ha'
      exact ih _ _ _ _ _ hG (H.any_heap d) h
    · unfold wpOp
      simp only [ho]
      rw [if_pos h.1]
      refine .inl ?_
      unfold Oper.wp
      rcases h.2 w H with ⟨l', u, w', hr, H', base', h1, h2, hk⟩ | ⟨g, args, w0, hr, hc⟩
      · rcases hr with hr | ⟨hr, rfl⟩ <;> rw [hr] <;> exact ih _ _ _ _ _ h2 H' hk
      · rw [hr, Oper.upon_enter]
        refine hc.mono ?_
        rintro e w' ⟨l', u, rfl, H', base', h1, h2, hk⟩
        exact ih _ _ _ _ _ h2 H' hk
theorem WholeK.first {i : Nat} {oi : Oper} {v : Value} {K : List Thing → Act → Prop} (hi : ops[i]? = some oi) (hsel : ∀ (j : Nat) (o : Oper) cs b, ops[j]? = some o → o.op ≠ .select cs b) :
    ∀ (f : Nat) (base l : List Thing) (listed : Array Bool) (a : Act),
      (∀ j oj, ops[j]? = some oj → j ≠ i → listed.getD j true = false → (∀ e ∈ oj.after, Region.binds md e = true → e.on ≠ i) → oi.apart ops oj = true) →
      i ∈ Region.ready md ops listed → YieldsK P ops W base oi v a → WholeK P md ops W K f base l (listed.setIfInBounds i true) (a.put oi.dst v) → WholeK P md ops W K (f + 1) base l listed a := by
  intro f
  induction f with
  | zero =>
    intro base l listed a _ hr hy H
    refine ⟨fun h => by rw [h] at hr; simp at hr, fun j hj => ?_⟩
    by_cases e : j = i
    · subst e; exact ⟨oi, hi, .inl ⟨v, hy, H⟩⟩
    · have := ready_mono hj e
      rw [H.1] at this; cases this
  | succ f ih =>
    intro base l listed a hfree hr hy H
    have hun := (mem_ready.1 hr).1
    refine ⟨fun h => by rw [h] at hr; simp at hr, fun j hj => ?_⟩
    by_cases e : j = i
    · subst e; exact ⟨oi, hi, .inl ⟨v, hy, H⟩⟩
    · obtain ⟨hjun, oj, hoj, hall⟩ := mem_ready.1 hj
      have hnot : ∀ e ∈ oj.after, Region.binds md e = true → e.on ≠ i := fun e he hb heq => by
        have := hall e he hb
        rw [heq, getD_both hun] at this
        cases this
      obtain ⟨h1, h2, h3⟩ := Oper.apart_spec (hfree j oj hoj e hjun hnot)
      have hsi := fun cs b => hsel i oi cs b hi
      have hsj := fun cs b => hsel j oj cs b hoj
      have keep : ∀ u, YieldsK P ops W base oi v (a.put oj.dst u) := fun u => hy.of_same (execOp_put oi hsi a oj.dst u h3) (wanted_put oi a oj.dst u h3)
      have hfree' : ∀ k ok, ops[k]? = some ok → k ≠ i → (listed.setIfInBounds j true).getD k true = false →
          (∀ e ∈ ok.after, Region.binds md e = true → e.on ≠ i) → oi.apart ops ok = true := fun k ok hk hki hun hno => by
        refine hfree k ok hk hki ?_ hno
        by_cases hjk : j = k
        · subst hjk; exact hjun
        · rw [getD_set_ne true hjk] at hun; exact hun
      obtain ⟨o', ho', h⟩ := H.2 j (ready_mono hj e)
      obtain rfl : o' = oj := Option.some.inj (ho'.symm.trans hoj)
      refine ⟨o', hoj, ?_⟩
      rcases h with ⟨u, hu, h⟩ | h
      · refine .inl ⟨u, hu.of_same (execOp_put o' hsj a oi.dst v h1).symm (wanted_put o' a oi.dst v h1).symm, ih _ _ _ _ hfree' (ready_mono hr (Ne.symm e)) (keep _) ?_⟩
        rw [Array.setIfInBounds_comm _ _ e, ← Act.put_comm a v _ h2]
        exact h
      · refine .inr ((h.of_same (execOp_put o' hsj a oi.dst v h1).symm (wanted_put o' a oi.dst v h1).symm).mono fun l' u ⟨base', hb1, hb2, h⟩ => ⟨base', hb1, hb2, ih _ _ _ _ hfree' (ready_mono hr (Ne.symm e)) ((keep _).more hb1) ?_⟩)
        rw [Array.setIfInBounds_comm _ _ e, ← Act.put_comm a v _ h2]
        exact h
/-- The walk in an order of one's own. -/
def wpK (P : Program) (ops : Array Oper) (W : World) (loud : List Nat) (K : List Thing → Act → Prop) : List Nat → List Thing → List Thing → Act → Prop
  | [], base, l, a => K l a
  | k :: ks, base, l, a => ∃ o, ops[k]? = some o ∧ if loud.contains k then LoudK P ops W o l a fun l' u => ∃ base', Keeps base base' ∧ Keeps base' l' ∧ wpK P ops W loud K ks base' l' (a.put o.dst u)
      else ∃ v, YieldsK P ops W base o v a ∧ wpK P ops W loud K ks base l (a.put o.dst v)
theorem WholeK.lexO {loud : List Nat} {K : List Thing → Act → Prop} (hsel : Region.noSelect ops = true) :
    ∀ (ks : List Nat) (base l : List Thing) (listed : Array Bool) (a : Act), Region.lexO md ops loud ks listed = true → wpK P ops W loud K ks base l a → WholeK P md ops W K ks.length base l listed a := by
  intro ks
  induction ks with
  | nil => intro base l listed a hB h; exact ⟨by simpa [Region.lexO] using hB, h⟩
  | cons k ks ih =>
    intro base l listed a hB h
    obtain ⟨o, h0, h⟩ := h
    rw [Region.lexO] at hB
    simp only [Bool.and_eq_true] at hB
    obtain ⟨hB, hB'⟩ := hB
    by_cases hk : loud.contains k = true
    · rw [if_pos hk] at h hB
      have hr : Region.ready md ops listed = [k] := by simpa using hB
      refine ⟨by rw [hr]; simp, fun i hi => ?_⟩
      rw [hr] at hi
      obtain rfl : i = k := by simpa using hi
      exact ⟨o, h0, .inr (h.mono fun l' u ⟨base', h1, h2, h⟩ => ⟨base', h1, h2, ih _ _ _ _ hB' h⟩)⟩
    · rw [if_neg hk] at h hB
      simp only [Bool.and_eq_true] at hB
      obtain ⟨v, hy, h⟩ := h
      exact WholeK.first h0 (Region.noSelect_spec hsel) ks.length base l listed a (Region.free_spec h0 hB.2) (by simpa using hB.1) hy (ih _ _ _ _ hB' h)
theorem wp_region_K {id : Nat} {Q : Exit → Act → World → Prop} {a : Act} {w : World} {l : List Thing} {lo : List Oper} (loud ord : List Nat) (base : List Thing) (H : Heap W l w) (hG : Keeps base l) (hm : P.follows .mixedOrders = true) (hB : Region.lexOB lo.toArray loud ord = true)
    (h : wpK P lo.toArray W loud (fun l' a' => ∀ w', Heap W l' w' → Q .normal a' w') ord base l a) : (Code.region id lo.toArray true).wp P Q a w := by
  simp only [Region.lexOB, Bool.and_eq_true, beq_iff_eq] at hB
  refine wp_region_any hm ?_
  have := WholeK.lexO (md := .any) hB.1.1 ord base l _ a hB.1.2 h
  have h2 := WholeK.any (Q := Q) (fun l a w H h => h w H) ord.length base l _ a _ hG H.drew this
  rw [hB.2] at h2
  exact h2
theorem wp_region_K0 {id : Nat} {Q : Exit → Act → World → Prop} {a : Act} {w : World} {l : List Thing} {lo : List Oper} (loud ord : List Nat) (H : Heap W l w) (hm : P.follows .mixedOrders = true) (hB : Region.lexOB lo.toArray loud ord = true)
    (h : wpK P lo.toArray W loud (fun l' a' => ∀ w', Heap W l' w' → Q .normal a' w') ord l l a) : (Code.region id lo.toArray true).wp P Q a w :=
  wp_region_K loud ord l H (fun _ h => h) hm hB h
theorem wpK_nil {loud : List Nat} {K : List Thing → Act → Prop} {base l : List Thing} {a : Act} (h : K l a) : wpK P ops W loud K [] base l a := h
theorem wpK_step {lo : List Oper} {loud : List Nat} {K : List Thing → Act → Prop} {o : Oper} {k : Nat} {ks : List Nat} {base l : List Thing} {a : Act} {s : Nat} {v : Value} (ho : lo[k]? = some o) (hk : loud.contains k = false) (hd : o.dst = some s) (hlt : s < a.tmps.size)
    (h1 : ∀ l0, Keeps base l0 → ∀ (w0 : World) (H0 : Heap W l0 w0), wpQuiet P lo.toArray (fun w' => ∃ d, w' = H0.any d) (fun a' => a'.tmps.getD s undef = v) [o] a) (h2 : wpK P lo.toArray W loud K ks base l (a.put o.dst v)) : wpK P lo.toArray W loud K (k :: ks) base l a := by
  have inj : ∀ u, (a.put o.dst u).tmps.getD s undef = v → u = v := fun u h => by
    rw [hd] at h
    simp [Act.put, hlt] at h
    exact h
  refine ⟨o, by simpa using ho, ?_⟩
  rw [if_neg (by rw [hk]; exact Bool.false_ne_true)]
  refine ⟨v, fun l0 hl0 w0 H0 => ?_, h2⟩
  have h := h1 l0 hl0 w0 H0
  unfold wpQuiet at h
  by_cases hw : Region.wanted o (yielded lo.toArray a.tmps) = true
  · rw [if_pos hw] at h
    obtain ⟨u, hu, hk⟩ := h
    obtain rfl := inj u hk
    exact .inl ⟨hw, hu⟩
  · rw [if_neg hw] at h
    exact .inr ⟨by simpa using hw, (inj undef h).symm⟩
/-- A loud one whose guard says no. -/
theorem wpK_skip {lo : List Oper} {loud : List Nat} {K : List Thing → Act → Prop} {o : Oper} {k : Nat} {ks : List Nat} {base l : List Thing} {a : Act} (ho : lo[k]? = some o) (hk : loud.contains k = false) (hw : Region.wanted o (yielded lo.toArray a.tmps) = false) (h2 : wpK P lo.toArray W loud K ks base l (a.put o.dst undef)) : wpK P lo.toArray W loud K (k :: ks) base l a := by
  refine ⟨o, by simpa using ho, ?_⟩
  rw [if_neg (by rw [hk]; exact Bool.false_ne_true)]
  exact ⟨undef, fun _ _ _ _ => .inr ⟨hw, rfl⟩, h2⟩
theorem wpK_loud {lo : List Oper} {loud : List Nat} {K : List Thing → Act → Prop} {o : Oper} {k : Nat} {ks : List Nat} {base l : List Thing} {a : Act} (ho : lo[k]? = some o) (hk : loud.contains k = true) (h : LoudK P lo.toArray W o l a fun l' u => ∃ base', Keeps base base' ∧ Keeps base' l' ∧ wpK P lo.toArray W loud K ks base' l' (a.put o.dst u)) : wpK P lo.toArray W loud K (k :: ks) base l a := by
  refine ⟨o, by simpa using ho, ?_⟩
  rw [if_pos hk]
  exact h
/-- A call, by what it does: in the end 'base' may grow. -/
theorem wpK_call {lo : List Oper} {loud : List Nat} {K : List Thing → Act → Prop} {k : Nat} {ks : List Nat} {base l : List Thing} {a : Act} {dst : Option Tmp} {ty : TypeId} {pos : String} {after : Array Edge} {guard : Option (Nat × Bool)} {f : FuncId} {xs : Array Operand} {ats : Array TypeId} {argl : List Value}
    (ho : lo[k]? = some ⟨dst, .call { callee := .value (.func f), args := xs, argTypes := ats }, ty, pos, after, guard⟩) (hk : loud.contains k = true) (hw : Region.wanted ⟨dst, .call { callee := .value (.func f), args := xs, argTypes := ats }, ty, pos, after, guard⟩ (yielded lo.toArray a.tmps) = true)
    (hf : ∀ args w, (callFunc f args).run P w = .ok (.enter f args) w) (ha : xs.toList.map a.eval = argl)
    (hc : ∀ w, Heap W l w → Calls P f argl.toArray w fun e w' => ∃ l' u, e = .returned u ∧ Heap W l' w' ∧ ∃ base', Keeps base base' ∧ Keeps base' l' ∧ wpK P lo.toArray W loud K ks base' l' (a.put dst u)) : wpK P lo.toArray W loud K (k :: ks) base l a := by
  refine wpK_loud ho hk ⟨hw, fun w H => .inr ⟨f, argl.toArray, w, ?_, hc w H⟩⟩
  have e : #[] ++ xs.map a.eval ++ #[] = argl.toArray := by subst ha; apply Array.ext'; simp
  rw [execOp_call_go, e]
  exact hf _ w
theorem Keeps.refl (l : List Thing) : Keeps l l := fun _ h => h
end
end Go.Proofs.Ytglehneaphigdaa

/- Rows of one's own that begin anywhere in their block (a queue: s = s[1:], s = append(s, x)). -/
namespace Go.Proofs.Ytglehneaphigdaa
open Go.RowKit
set_option linter.unusedSimpArgs false
set_option linter.unusedVariables false
/-- A row of a slice's value v, wherever in its block. -/
def OwnT (e size : Nat) (v : Value) (n : Nat) (xs : List Value) : Thing := ⟨v.ownBlock, fun w => Own w 0 e size v n xs, fun w w' h ho => ho.same h⟩
theorem RowT.own {w : World} {e size n : Nat} {v : Value} {xs : List Value} (h : (RowT e size v n xs).ok w) : (OwnT e size v n xs).ok w := Own.ofRow h
theorem Heap.slide {W w : World} {l : List Thing} {e size n : Nat} {v : Value} {xs : List Value} (H : Heap W (RowT e size v n xs :: l) w) : Heap W (OwnT e size v n xs :: l) w :=
  H.head (World.grownBy.refl _ _) (RowT.own (H.ok _ List.mem_cons_self)) (.inl rfl)
theorem Heap.ownRd {W w : World} {l : List Thing} {e size n c : Nat} {a : Option Addr} {xs : List Value} (H : Heap W l w) (m : OwnT e size (.slice a n c) n xs ∈ l) : Rd w a xs := by
  obtain ⟨ao, c', he, hr, _⟩ := Own.rd (H.ok _ m)
  simp only [Value.slice.injEq, true_and] at he
  obtain ⟨rfl, _⟩ := he
  exact hr
theorem OwnT.form {w : World} {e size n : Nat} {v : Value} {xs : List Value} (h : (OwnT e size v n xs).ok w) (hn : 0 < n) : ∃ g o c, v = .slice (some ⟨g, o, none⟩) n c ∧ n ≤ c ∧ c ≤ maxLen := by
  obtain ⟨_, ⟨_, rfl⟩ | ⟨g, off, cap, cur, rfl, _, _, h1, h2, _⟩⟩ := h
  · omega
  · exact ⟨g, off, cap, rfl, h1, h2⟩
/-- s[1:]. -/
theorem Own.tail {w : World} {base e size g off n c : Nat} {xs : List Value} (h : Own w base e size (.slice (some ⟨g, off, none⟩) n c) n xs) (hn : 1 ≤ n) :
    Own w base e size (.slice (cutA (some ⟨g, off, none⟩) c 1 size) (n - 1) (c - 1)) (n - 1) (xs.drop size) := by
  obtain ⟨hl, ⟨hv, _⟩ | ⟨g', off', cap, cur, hv, hb, hg, hnc, hcm, hs, ht⟩⟩ := h
  · cases hv
  · simp only [Value.slice.injEq, Option.some.injEq, Addr.mk.injEq, true_and] at hv
    obtain ⟨⟨rfl, rfl, _⟩, rfl⟩ := hv
    have hsz : n * size = size + (n - 1) * size := by
      obtain ⟨k, rfl⟩ : ∃ k, n = k + 1 := ⟨n - 1, by omega⟩
      rw [Nat.add_sub_cancel, Nat.add_mul]; omega
    refine ⟨by simp [hl]; omega, .inr ?_⟩
    by_cases hc : c = 1
    · subst hc
      obtain rfl : n = 1 := by omega
      refine ⟨g, off, 0, cur, by simp [cutA], hb, hg, by omega, by omega, by omega, ?_⟩
      simp only [Nat.sub_self, Nat.zero_mul, List.take_zero]
      rw [List.drop_of_length_le (by rw [hl]; omega)]
    · refine ⟨g, off + size, c - 1, cur, by simp [cutA, hc, addr_add], hb, hg, by omega, by omega, ?_, ?_⟩
      · have : c * size = size + (c - 1) * size := by
          obtain ⟨k, rfl⟩ : ∃ k, c = k + 1 := ⟨c - 1, by omega⟩
          rw [Nat.add_sub_cancel, Nat.add_mul]; omega
        omega
      · rw [← ht, hsz, List.drop_take, List.drop_drop, Nat.add_sub_cancel_left]
theorem Heap.ownTail {W w : World} {l : List Thing} {e size g off n c : Nat} {xs : List Value} (H : Heap W (OwnT e size (.slice (some ⟨g, off, none⟩) n c) n xs :: l) w) (hn : 1 ≤ n) :
    Heap W (OwnT e size (.slice (cutA (some ⟨g, off, none⟩) c 1 size) (n - 1) (c - 1)) (n - 1) (xs.drop size) :: l) w := by
  refine H.head (World.grownBy.refl _ _) (Own.tail (H.ok _ List.mem_cons_self) hn) (.inl ?_)
  unfold OwnT cutA
  simp only
  split
  · rfl
  · simp [Value.ownBlock, Addr.add]
    split <;> rfl
section
variable {P : Program}
theorem run_append_roomO (w : World) (t ty e : TypeId) (i : TypeInfo) (ht : P.underlying t = some (.slice e)) (hi : P.info? e = some i)
    (g off sLen sCap : Nat) (cur : Array Value) (hg : w.heap[g]? = some (.cells cur e (0, 0)))
    (a : Addr) (m c : Nat) (news : List Value) (hl : news.length = m * i.size) (hnews : ∀ j u, news[j]? = some u → w.cell? (a.add j) = some u) (h1 : ∀ u ∈ news, u.oneCell' = true)
    (hroom : sLen + m ≤ sCap) (hfit : off + sLen * i.size + news.length ≤ cur.size) :
    (Builtin.append_ #[t, t] ty #[.slice (some ⟨g, off, none⟩) sLen sCap, .slice (some a) m c]).run P w =
      .ok (.slice (some ⟨g, off, none⟩) (sLen + m) sCap) (w.setRow g (cur.toList.take (off + sLen * i.size) ++ news ++ cur.toList.drop (off + sLen * i.size + news.length)).toArray) := by
  have hf := run_firstCells_some (P := P) w i.size m a m c news hl hnews
  have hst := run_storeCells_at P g (off + sLen * i.size) e news 0 cur w hg (by simpa using hfit) h1
  simp only [Nat.add_zero] at hst
  have ha : (⟨g, off, none⟩ : Addr).add (sLen * i.size) = ⟨g, off + sLen * i.size, none⟩ := addr_add g off _
  simp [Builtin.append_, run_underlying ht, sizeOf, typeInfo, hi, Builtin.lenOf, hroom, hf, ha, hst]
end
section
variable {ops : Array Oper} {rest : List Oper} {o : Oper} {a : Act} {w W : World} {l : List Thing} {Q : Exit → Act → World → Prop}
/-- append(s, x...) to such a row. -/
theorem wpl_appendO {t e size bytes : Nat} {z : Value} (T : SlTy Try.prog t e size bytes z) (hgd : o.guard = none) {s x : Operand}
    (ho : o.op = .call { callee := .builtin .append, args := #[s, x], argTypes := #[t, t] }) {v : Value} (hs : a.eval s = v) {b off m c : Nat} (hx : a.eval x = .slice (some ⟨b, off, none⟩) m c)
    {n : Nat} {xs news : List Value} (H : Heap W (OwnT e size v n xs :: l) w) (hrd : Rd w (some ⟨b, off, none⟩) news) (hl : news.length = m * size) (h1 : OneCells news)
    (h63 : n + m ≤ maxLen) (hbytes : (n + m) * bytes ≤ 140737488355328)
    (h : ∀ v' w', Heap W (OwnT e size v' (n + m) (xs ++ news) :: l) w' → wpList Try.prog ops Q rest (a.put o.dst v') w') : wpList Try.prog ops Q (o :: rest) a w := by
  have hown := H.ok _ List.mem_cons_self
  obtain ⟨hxl, ⟨rfl, rfl⟩ | ⟨g, off', cap, cur, rfl, _, hg, hnc, hcm, hsz, htk⟩⟩ := hown
  · have hx0 : xs = [] := List.eq_nil_of_length_eq_zero (by simpa using hxl)
    subst hx0
    have H2 : Heap W (RowT e size (.slice none 0 0) 0 [] :: l) w := H.tail.nilRow e size
    exact wpl_appendH T hgd ho hs hx H2 hrd hl h1 h63 hbytes fun v' w' H' => h v' w' H'.slide
  · by_cases hroom : n + m ≤ cap
    · obtain ⟨i, hi, hz, hsi, hbi⟩ := T.inf
      subst hsi
      have hms : (n + m) * i.size ≤ cap * i.size := Nat.mul_le_mul_right _ hroom
      rw [Nat.add_mul] at hms
      have hfit : off' + n * i.size + news.length ≤ cur.size := by omega
      have hr := run_append_roomO (P := Try.prog) w t o.type e i T.und hi g off' n cap cur hg ⟨b, off, none⟩ m c news hl hrd.addr h1 hroom hfit
      refine wpList_plain hgd fun K hK => ?_
      unfold Oper.wp execOp
      simp only [ho, resolve, invoke, builtin, Sem.run_bind, Sem.run_pure, Result.andThen_ok, List.map_toArray, List.map_cons, List.map_nil, hs, hx, hr]
      have hxs : xs.length = n * i.size := hxl
      refine hK _ _ (h _ _ (H.head ⟨rfl, rfl, rfl, by simp, fun k _ hk => setRow_other w g k _ (fun e => hk (by show some k = some g; rw [e]))⟩ ⟨by rw [List.length_append, hxs, hl, Nat.add_mul], .inr ⟨g, off', cap, _, rfl, Nat.zero_le _, setRow_heap w g cur _ e _ hg, hroom, hcm, ?_, ?_⟩⟩ (.inl rfl)))
      · simp only [List.size_toArray, List.length_append, List.length_take, List.length_drop, Array.length_toList]
        omega
      · have hA : (cur.toList.take (off' + n * i.size)).length = off' + n * i.size := by simp; omega
        simp only [List.append_assoc]
        rw [List.drop_append_of_le_length (by rw [hA]; omega), List.drop_take, Nat.add_sub_cancel_left, htk, ← List.append_assoc, show (n + m) * i.size = (xs ++ news).length by rw [List.length_append, hxs, hl, Nat.add_mul]]
        exact List.take_left
    · obtain ⟨i, hi, hz, hsi, hbi⟩ := T.inf
      subst hsi
      subst hbi
      have hown' : Own w 0 e i.size (.slice (some ⟨g, off', none⟩) n cap) n xs := ⟨hxl, .inr ⟨g, off', cap, cur, rfl, Nat.zero_le _, hg, hnc, hcm, hsz, htk⟩⟩
      have hrd0 : Rd w (some ⟨g, off', none⟩) xs := by
        obtain ⟨ao, c', he, hr, _⟩ := Own.rd hown'
        simp only [Value.slice.injEq, true_and] at he
        obtain ⟨rfl, _⟩ := he
        exact hr
      have hr := run_append_grow (P := Try.prog) w t o.type e i z T.und hi hz ⟨g, off', none⟩ n cap xs hxl hrd0.addr ⟨b, off, none⟩ m c news hl hrd.addr (by omega) (by unfold maxLen at h63; omega) (growslice_fits (by omega) hbytes)
      have hge := grownCap_ge w (n + m) cap e
      have hcm2 : grownCap w (n + m) cap e ≤ maxLen := grownCap_le_maxLen w (n + m) cap e h63
      refine wpList_plain hgd fun K hK => ?_
      unfold Oper.wp execOp
      simp only [ho, resolve, invoke, builtin, Sem.run_bind, Sem.run_pure, Result.andThen_ok, List.map_toArray, List.map_cons, List.map_nil, hs, hx, hr]
      refine hK _ _ (h _ _ (H.head ⟨rfl, rfl, rfl, by simp, fun k hk _ => Below.heap_alloc w.drew _ k hk⟩ ⟨by rw [List.length_append, hxl, hl, Nat.add_mul], .inr ⟨w.heap.size, 0, _, _, rfl, Nat.zero_le _, heap_alloc_new w.drew _, hge, hcm2, ?_, ?_⟩⟩ (.inr fun k hk => ?_)))
      · simp only [Array.size_append, List.size_toArray, size_zeroCells, T.zc, hxl, hl, ← Nat.add_mul]
        rw [Nat.zero_add]
        have : n + m + (grownCap w (n + m) cap e - (n + m)) = grownCap w (n + m) cap e := by omega
        rw [this]
        exact Nat.le_refl _
      · simp only [Array.toList_append, List.append_assoc, List.drop_zero]
        rw [← List.append_assoc, show (n + m) * i.size = (xs ++ news).length by rw [List.length_append, hxl, hl, Nat.add_mul]]
        exact List.take_left
      · have hk' : some w.heap.size = some k := hk
        cases hk'
        exact ⟨Nat.le_refl _, by simp⟩
theorem wpl_loadCell {T : TypeId} {dst : Option Tmp} {ty : TypeId} {pos : String} {after : Array Edge} {guard : Option (Nat × Bool)} {x : Operand} {b off : Nat} (CT : CellTy T) (hw : Region.wanted ⟨dst, .load T x, ty, pos, after, guard⟩ (yielded ops a.tmps) = true) (hx : a.eval x = .pointer (some ⟨b, off, none⟩))
    {v : Value} (hc : w.cell? ⟨b, off, none⟩ = some v) (h : wpList Try.prog ops Q rest (a.put dst v) w) : wpList Try.prog ops Q (⟨dst, .load T x, ty, pos, after, guard⟩ :: rest) a w := by
  simp only [World.cell?, if_true] at hc
  cases hb : w.heap[b]? with
  | none => rw [hb] at hc; cases hc
  | some o =>
    rw [hb] at hc
    cases o <;> first | (cases hc; done) | skip
    rename_i cs t f
    exact wpl_loadC CT hw hx hb hc h
theorem wpl_cut1 {t e size bytes : Nat} {z : Value} (T : SlTy Try.prog t e size bytes z) {dst : Option Tmp} {ty : TypeId} {pos : String} {after : Array Edge} {guard : Option (Nat × Bool)} {x : Operand} (hw : Region.wanted ⟨dst, .slice t x (some (.const (.int .i64 1))) none none, ty, pos, after, guard⟩ (yielded ops a.tmps) = true)
    {ao : Option Addr} {n c : Nat} (hx : a.eval x = .slice ao n c) (hn : 1 ≤ n) (h : wpList Try.prog ops Q rest (a.put dst (.slice (cutA ao c 1 size) (n - 1) (c - 1))) w) : wpList Try.prog ops Q (⟨dst, .slice t x (some (.const (.int .i64 1))) none none, ty, pos, after, guard⟩ :: rest) a w := by
  refine wpl_pure hw _ (fun w => ?_) h
  have hr : (Instr.slice t (.slice ao n c) (some (.int .i64 1)) none none).run Try.prog w = .ok (.slice (cutA ao c 1 size) (n - 1) (c - 1)) w := run_cutFrom (P := Try.prog) T ao n c 1 .i64 hn w
  have hs : (Instr.sliceAt t (.slice ao n c) (some (.int .i64 1)) none none).run Try.prog w = .ok (.slice (cutA ao c 1 size) (n - 1) (c - 1)) w := by
    unfold Instr.sliceAt
    rw [Sem.run_bind, run_underlying T.und]
    simp only [Result.andThen_ok]
    exact hr
  have e : (some (Operand.const (.int .i64 1))).map a.eval = some (.int .i64 1) := rfl
  unfold execOp
  simp only [hx, e, Option.map_none, Sem.run_bind, hs, Result.andThen_ok, Sem.run_pure]
/-- A block as a row that is full. -/
theorem Heap.celOwn {W w : World} {l : List Thing} {g e size n : Nat} {c : Array Value} (H : Heap W (Cel g c e :: l) w) (hc : c.size = n * size) (hn : n ≤ maxLen) : Heap W (OwnT e size (.slice (some ⟨g, 0, none⟩) n n) n c.toList :: l) w :=
  H.head (World.grownBy.refl _ _) ⟨by simpa using hc, .inr ⟨g, 0, n, c, rfl, Nat.zero_le _, H.blk List.mem_cons_self, Nat.le_refl _, hn, by omega, by rw [List.drop_zero, List.take_of_length_le (by simp [hc])]⟩⟩ (.inl rfl)
/-- The head of a block as a row. -/
theorem Heap.celOwnP {W w : World} {l : List Thing} {g e size n m : Nat} {c : Array Value} (H : Heap W (Cel g c e :: l) w) (hc : m * size ≤ c.size) (hn : n ≤ m) (hm : m ≤ maxLen) : Heap W (OwnT e size (.slice (some ⟨g, 0, none⟩) n m) n (c.toList.take (n * size)) :: l) w := by
  have h2 : n * size ≤ m * size := Nat.mul_le_mul_right _ hn
  exact H.head (World.grownBy.refl _ _) ⟨by simp; omega, .inr ⟨g, 0, m, c, rfl, Nat.zero_le _, H.blk List.mem_cons_self, hn, hm, by omega, by rw [List.drop_zero]⟩⟩ (.inl rfl)
/-- make([]T, n, m). -/
theorem wpl_makeC {t e size bytes : Nat} {z : Value} (T : SlTy Try.prog t e size bytes z) {dst : Option Tmp} {ty : TypeId} {pos : String} {after : Array Edge} {guard : Option (Nat × Bool)} {x y : Operand} (hw : Region.wanted ⟨dst, .makeSlice t x y, ty, pos, after, guard⟩ (yielded ops a.tmps) = true)
    {kl kc : IntKind} {L C : Int} (n m : Nat) (hx : a.eval x = .int kl L) (hy : a.eval y = .int kc C) (hL : L = (n : Int)) (hC : C = (m : Int)) (hnm : n ≤ m) (hm : m ≤ 65536) (hb : bytes * m ≤ 281474976710656)
    (H : Heap W l w) (h : ∀ p w', Heap W (Cel p (madeCells z.cells (m * size)) e :: l) w' → wpList Try.prog ops Q rest (a.put dst (.slice (some ⟨p, 0, none⟩) n m)) w') : wpList Try.prog ops Q (⟨dst, .makeSlice t x y, ty, pos, after, guard⟩ :: rest) a w := by
  subst hL hC
  obtain ⟨i, hi, hz, hsi, hbi⟩ := T.inf
  subst hsi hbi
  have hb2 : (i.bytes : Int) * (m : Int) ≤ 281474976710656 := by rw [← Int.natCast_mul]; omega
  have hr := run_make (P := Try.prog) w t e i z T.und hi hz kl kc (n : Int) (m : Int) (by omega) (by omega) hb2 (by omega)
  simp only [Int.toNat_natCast] at hr
  refine BigFrame.wpList_want hw fun K hK => ?_
  unfold Oper.wp execOp
  simp only [hx, hy, Sem.run_bind, hr, Result.andThen_ok, Sem.run_pure]
  exact hK _ _ (h _ _ (H.alloc _ _))
end
end Go.Proofs.Ytglehneaphigdaa

/- Rows of one's own, written in place; rows with all their room. -/
namespace Go.Proofs.Ytglehneaphigdaa
open Go.RowKit
set_option linter.unusedSimpArgs false
set_option linter.unusedVariables false
/-- A row with all its room. -/
def FullT (e size : Nat) (a : Option Addr) (n c : Nat) (P : List Value → Prop) : Thing :=
  ⟨(Value.slice a n c).ownBlock, fun w => n ≤ c ∧ c ≤ maxLen ∧ ∃ xs, Own w 0 e size (.slice a c c) c xs ∧ P xs, fun w w' h ⟨hn, hm, xs, ho, hp⟩ => ⟨hn, hm, xs, ho.same fun k hk => h k (by cases a <;> exact hk), hp⟩⟩
theorem Own.full {w : World} {e size n c : Nat} {a : Option Addr} {xs : List Value} (h : Own w 0 e size (.slice a n c) n xs) : n ≤ c ∧ c ≤ maxLen ∧ ∃ ys, Own w 0 e size (.slice a c c) c ys := by
  obtain ⟨hl, ⟨hv, hn⟩ | ⟨g, off, cap, cur, hv, hb, hg, hnc, hcm, hs, ht⟩⟩ := h
  · simp only [Value.slice.injEq] at hv
    obtain ⟨rfl, rfl, rfl⟩ := hv
    exact ⟨Nat.le_refl _, by unfold maxLen; omega, [], by simp, .inl ⟨rfl, rfl⟩⟩
  · simp only [Value.slice.injEq, true_and] at hv
    obtain ⟨rfl, rfl⟩ := hv
    refine ⟨hnc, hcm, (cur.toList.drop off).take (c * size), ?_, .inr ⟨g, off, c, cur, rfl, hb, hg, Nat.le_refl _, hcm, hs, rfl⟩⟩
    simp
    omega
section
variable {W w : World} {l : List Thing} {e size n c : Nat} {a : Option Addr} {xs : List Value} {P Q : List Value → Prop}
theorem Heap.toFull (H : Heap W (OwnT e size (.slice a n c) n xs :: l) w) : Heap W (FullT e size a n c (fun _ => True) :: l) w := by
  obtain ⟨h1, h2, ys, h3⟩ := Own.full (H.ok _ List.mem_cons_self)
  exact H.head (World.grownBy.refl _ _) ⟨h1, h2, ys, h3, trivial⟩ (.inl rfl)
theorem Heap.openFull (H : Heap W (FullT e size a n c P :: l) w) : ∃ xs, P xs ∧ n ≤ c ∧ c ≤ maxLen ∧ xs.length = c * size ∧ (a = none → c = 0) ∧ Heap W (OwnT e size (.slice a c c) c xs :: l) w := by
  obtain ⟨h1, h2, xs, h3, h4⟩ := H.ok _ List.mem_cons_self
  refine ⟨xs, h4, h1, h2, h3.1, fun e => ?_, H.head (World.grownBy.refl _ _) h3 (.inl (by cases a <;> rfl))⟩
  subst e
  obtain ⟨_, ⟨hv, _⟩ | ⟨g, off, cap, cur, hv, _⟩⟩ := h3
  · simp only [Value.slice.injEq] at hv; exact hv.2.2
  · simp at hv
theorem Heap.shutFull (H : Heap W (OwnT e size (.slice a c c) c xs :: l) w) (hn : n ≤ c) (hc : c ≤ maxLen) (hP : P xs) : Heap W (FullT e size a n c P :: l) w :=
  H.head (World.grownBy.refl _ _) ⟨hn, hc, xs, H.ok _ List.mem_cons_self, hP⟩ (.inl (by cases a <;> rfl))
theorem Heap.clipOwn (H : Heap W (OwnT e size (.slice a n c) n xs :: l) w) : Heap W (OwnT e size (.slice a n n) n xs :: l) w :=
  H.head (World.grownBy.refl _ _) (Own.clip (H.ok _ List.mem_cons_self)) (.inl (by cases a <;> rfl))
theorem OwnT.room (h : (OwnT e size (.slice a n c) n xs).ok w) : n ≤ c ∧ c ≤ maxLen := ⟨(Own.full h).1, (Own.full h).2.1⟩
theorem OwnT.len {v : Value} (h : (OwnT e size v n xs).ok w) : xs.length = n * size := h.1
end
theorem Own.put {w : World} {g off n c e size : Nat} {xs : List Value} (h : Own w 0 e size (.slice (some ⟨g, off, none⟩) n c) n xs) {cur : Array Value} {t : TypeId} (hb : blk w g = some (.cells cur t (0, 0))) (j : Nat) (c2 : Array Value) (hj : j + c2.size ≤ xs.length) :
    Own (setBlk w g (splice cur (off + j) c2)) 0 e size (.slice (some ⟨g, off, none⟩) n c) n (xs.take j ++ c2.toList ++ xs.drop (j + c2.size)) := by
  obtain ⟨hl, ⟨hv, _⟩ | ⟨g', off', cap, cur', hv, hb', hg, hnc, hcm, hs, ht⟩⟩ := h
  · cases hv
  · simp only [Value.slice.injEq, Option.some.injEq, Addr.mk.injEq, true_and] at hv
    obtain ⟨⟨rfl, rfl, _⟩, rfl⟩ := hv
    have hb2 : w.heap[g]? = some (.cells cur t (0, 0)) := hb
    rw [hg] at hb2
    cases hb2
    have hnm : n * size ≤ c * size := Nat.mul_le_mul_right _ hnc
    refine ⟨by simp; omega, .inr ⟨g, off, c, splice cur (off + j) c2, rfl, hb', setBlk_same w g _ cur _ _ hg, hnc, hcm, ?_, ?_⟩⟩
    · unfold splice
      simp
      omega
    · unfold splice
      rw [List.toList_toArray]
      apply List.ext_getElem?
      intro i
      have hxi : ∀ i, i < n * size → xs[i]? = cur.toList[off + i]? := fun i hi => by
        rw [← ht, List.getElem?_take, if_pos hi, List.getElem?_drop]
      have hsz : cur.toList.length = cur.size := Array.length_toList
      rw [List.getElem?_take]
      by_cases hi : i < n * size
      · rw [if_pos hi, List.getElem?_drop]
        have hA : (cur.toList.take (off + j)).length = off + j := by simp; omega
        have hB : (xs.take j).length = j := by simp; omega
        by_cases h1 : i < j
        · rw [List.append_assoc, List.getElem?_append_left (by rw [hA]; omega), List.append_assoc, List.getElem?_append_left (by rw [hB]; omega), List.getElem?_take, if_pos (by omega), List.getElem?_take, if_pos h1, hxi i hi]
        · rw [List.append_assoc, List.append_assoc, List.getElem?_append_right (l₁ := cur.toList.take (off + j)) (by rw [hA]; omega), List.getElem?_append_right (l₁ := xs.take j) (by rw [hB]; omega), hA, hB, show off + i - (off + j) = i - j by omega]
          by_cases h2 : i - j < c2.size
          · rw [List.getElem?_append_left (by simpa using h2), List.getElem?_append_left (by simpa using h2)]
          · rw [List.getElem?_append_right (by simp; omega), List.getElem?_append_right (by simp; omega), List.getElem?_drop, List.getElem?_drop, Array.length_toList, show off + j + c2.size + (i - j - c2.size) = off + i by omega, show j + c2.size + (i - j - c2.size) = i by omega, hxi i hi]
      · rw [if_neg hi, List.getElem?_eq_none (by simp; omega)]
theorem splice_one {cur : Array Value} {k : Nat} {v : Value} (h : k < cur.size) : splice cur k #[v] = cur.setIfInBounds k v := by
  unfold splice
  apply Array.ext_getElem?
  intro i
  rw [Array.getElem?_setIfInBounds, List.getElem?_toArray]
  have hA : (cur.toList.take k).length = k := by simp; omega
  by_cases h1 : i < k
  · rw [List.append_assoc, List.getElem?_append_left (by rw [hA]; omega), List.getElem?_take, if_pos h1, if_neg (by omega)]
    simp
  · rw [List.append_assoc, List.getElem?_append_right (by rw [hA]; omega), hA]
    by_cases h2 : i = k
    · subst h2; simp [h]
    · rw [if_neg (by omega), List.getElem?_append_right (by simp; omega), List.getElem?_drop]
      simp
      congr 1
      omega
theorem list_put_one {xs : List Value} {j : Nat} {v : Value} (h : j < xs.length) : xs.take j ++ [v] ++ xs.drop (j + 1) = xs.set j v := by
  rw [List.append_assoc, List.set_eq_take_append_cons_drop, if_pos h]; rfl
theorem Own.blkOf {w : World} {g off n c e size : Nat} {xs : List Value} (h : Own w 0 e size (.slice (some ⟨g, off, none⟩) n c) n xs) : ∃ cur, blk w g = some (.cells cur e (0, 0)) ∧ off + xs.length ≤ cur.size := by
  obtain ⟨hl, ⟨hv, _⟩ | ⟨g', off', cap, cur', hv, hb', hg, hnc, hcm, hs, ht⟩⟩ := h
  · cases hv
  · simp only [Value.slice.injEq, Option.some.injEq, Addr.mk.injEq, true_and] at hv
    obtain ⟨⟨rfl, rfl, _⟩, rfl⟩ := hv
    have hnm : n * size ≤ c * size := Nat.mul_le_mul_right _ hnc
    exact ⟨cur', hg, by omega⟩
theorem putOwnH {W w : World} {l l' : List Thing} {g off n c e size : Nat} {xs ys : List Value} (H : Heap W l w) {cur c2 : Array Value} (hb : blk w g = some (.cells cur e (0, 0))) {j : Nat} (hj : j + c2.size ≤ xs.length) (hy : xs.take j ++ c2.toList ++ xs.drop (j + c2.size) = ys)
    (r : Repl l (OwnT e size (.slice (some ⟨g, off, none⟩) n c) n xs) (OwnT e size (.slice (some ⟨g, off, none⟩) n c) n ys) l') : Heap W l' (setBlk w g (splice cur (off + j) c2)) :=
  H.upd r grown_setBlk (by subst hy; exact Own.put (H.ok _ r.mem) hb j c2 hj) (.inl rfl)
section
variable {ops : Array Oper} {rest : List Oper} {o : Oper} {a : Act} {w W : World} {l l' : List Thing} {Q : Exit → Act → World → Prop}
/-- s[i] = v, of one cell. -/
theorem wpl_storeOwnC {T e : TypeId} {dst : Option Tmp} {ty : TypeId} {pos : String} {after : Array Edge} {guard : Option (Nat × Bool)} {x y : Operand} {g ad off n c size j : Nat} {v : Value} {xs : List Value} (CT : CellTy T) (hw : Region.wanted ⟨dst, .store T x y, ty, pos, after, guard⟩ (yielded ops a.tmps) = true) (hx : a.eval x = .pointer (some ⟨g, ad, none⟩)) (hy : a.eval y = v) (hc : v.cells = #[v] ∧ v.oneCell' = true)
    (H : Heap W l w) (m : OwnT e size (.slice (some ⟨g, off, none⟩) n c) n xs ∈ l) (hk : ad = off + j) (hj : j < xs.length) (r : Repl l (OwnT e size (.slice (some ⟨g, off, none⟩) n c) n xs) (OwnT e size (.slice (some ⟨g, off, none⟩) n c) n (xs.set j v)) l')
    (h : ∀ w', Heap W l' w' → wpList Try.prog ops Q rest (a.put dst undef) w') : wpList Try.prog ops Q (⟨dst, .store T x y, ty, pos, after, guard⟩ :: rest) a w := by
  subst hk
  obtain ⟨cur, hb, hs⟩ := Own.blkOf (H.ok _ m)
  have h2 := putOwnH H (j := j) (c2 := #[v]) hb (by simp; omega) (list_put_one hj) r
  rw [splice_one (by omega)] at h2
  exact wpl_storeC CT hw hx hy hc hb (by omega) rfl ⟨⟨_, hb⟩, rfl⟩ (h _ h2)
/-- s[i] = v, of a row. -/
theorem wpl_storeOwnR {T N e : Nat} {z : Array Value} {dst : Option Tmp} {ty : TypeId} {pos : String} {after : Array Edge} {guard : Option (Nat × Bool)} {x y : Operand} {g ad off n c size j : Nat} {c2 : Array Value} {xs ys : List Value} (RT : RowTy T N z) (hw : Region.wanted ⟨dst, .store T x y, ty, pos, after, guard⟩ (yielded ops a.tmps) = true) (hx : a.eval x = .pointer (some ⟨g, ad, none⟩)) (hy : a.eval y = .agg c2) (hc : Cells N c2)
    (H : Heap W l w) (m : OwnT e size (.slice (some ⟨g, off, none⟩) n c) n xs ∈ l) (hk : ad = off + j) (hj : j + N ≤ xs.length) (hys : xs.take j ++ c2.toList ++ xs.drop (j + N) = ys) (r : Repl l (OwnT e size (.slice (some ⟨g, off, none⟩) n c) n xs) (OwnT e size (.slice (some ⟨g, off, none⟩) n c) n ys) l')
    (h : ∀ w', Heap W l' w' → wpList Try.prog ops Q rest (a.put dst undef) w') : wpList Try.prog ops Q (⟨dst, .store T x y, ty, pos, after, guard⟩ :: rest) a w := by
  subst hk
  obtain ⟨cur, hb, hs⟩ := Own.blkOf (H.ok _ m)
  have hN := hc.1
  have h2 := putOwnH H (j := j) (c2 := c2) hb (by omega) (by rw [hN]; exact hys) r
  exact wpl_storeR RT hw hx hy hc hb (by omega) rfl ⟨⟨_, hb⟩, rfl⟩ (h _ h2)
theorem wpQ_loadRdR {T n : Nat} {z : Array Value} {dst : Option Tmp} {ty : TypeId} {pos : String} {after : Array Edge} {guard : Option (Nat × Bool)} {x : Operand} {b off : Nat} {K : Act → Prop} {H : Heap W l w} (RT : RowTy T n z) (hw : Region.wanted ⟨dst, .load T x, ty, pos, after, guard⟩ (yielded ops a.tmps) = true) (hx : a.eval x = .pointer (some ⟨b, off, none⟩))
    {o k : Nat} {xs : List Value} {c1 : Array Value} (R : ∀ w', Heap W l w' → Rd w' (some ⟨b, o, none⟩) xs) (hk : off = o + k) (hn : k + n ≤ xs.length) (h0 : 0 < n) (hv : ((xs.drop k).take n).toArray = c1)
    (h : wpQuiet Try.prog ops (fun w' => ∃ d, w' = H.any d) K rest (a.put dst (.agg c1))) : wpQuiet Try.prog ops (fun w' => ∃ d, w' = H.any d) K (⟨dst, .load T x, ty, pos, after, guard⟩ :: rest) a := by
  subst hk
  refine BigFrame.wpQuiet_want hw fun K hK => ⟨_, ?_, hK _ h⟩
  rintro _ ⟨d, rfl⟩
  obtain ⟨cs, t, f, hb, hs, he⟩ := rd_block (R _ (H.any_heap d)) hn h0
  unfold Oper.quietAt execOp
  simp only [hx, Sem.run_bind, run_loadR RT hb hs, he, hv]
  exact ⟨rfl, rfl⟩
theorem wpQ_loadAt {T : TypeId} {dst : Option Tmp} {ty : TypeId} {pos : String} {after : Array Edge} {guard : Option (Nat × Bool)} {x : Operand} {b off : Nat} {K : Act → Prop} {H : Heap W l w} (CT : CellTy T) (hw : Region.wanted ⟨dst, .load T x, ty, pos, after, guard⟩ (yielded ops a.tmps) = true) (hx : a.eval x = .pointer (some ⟨b, off, none⟩))
    {v : Value} (hc : ∀ w', Heap W l w' → w'.cell? ⟨b, off, none⟩ = some v)
    (h : wpQuiet Try.prog ops (fun w' => ∃ d, w' = H.any d) K rest (a.put dst v)) : wpQuiet Try.prog ops (fun w' => ∃ d, w' = H.any d) K (⟨dst, .load T x, ty, pos, after, guard⟩ :: rest) a := by
  refine BigFrame.wpQuiet_want hw fun K hK => ⟨v, ?_, hK _ h⟩
  rintro _ ⟨d, rfl⟩
  have hv := hc _ (H.any_heap d)
  simp only [World.cell?, if_true] at hv
  cases hb : (H.any d).heap[b]? with
  | none => rw [hb] at hv; cases hv
  | some o =>
    rw [hb] at hv
    cases o <;> first | (cases hv; done) | skip
    rename_i cs t f
    unfold Oper.quietAt execOp
    simp only [hx, Sem.run_bind, run_loadC CT hb hv]
    exact ⟨rfl, rfl⟩
end
end Go.Proofs.Ytglehneaphigdaa

/- countinghouseref05: a graph as a list of edges. -/
namespace Go.Proofs.Ytglehneaphigdaa
open Go.RowKit
set_option linter.unusedSimpArgs false
set_option linter.unusedVariables false
theorem cell_flows : CellTy 22 := ⟨⟨_, Try.underlying22, rfl⟩, by kernel_rfl⟩
abbrev rgC (v : Value) : Array Value := #[v]
theorem rgC_g (v : Value) : (rgC v)[0]? = some v := rfl
/-- The graph's cell, and its edges. -/
abbrev RgT (p : Nat) (v : Value) : Thing := Cel p (rgC v) 42
abbrev FlT (v : Value) (n : Nat) (F : List Flw) : Thing := RowT 35 3 v n (flwL F)
/-- The first capacity of these ends. -/
def capL : List Flw → Nat → Nat → Int
  | [], _, _ => 0
  | x :: F, a, b => if x.f = a ∧ x.t = b then x.n else capL F a b
theorem capL_app (a b : Nat) : ∀ (F G : List Flw), capL (F ++ G) a b = if F.any (fun x => decide (x.f = a ∧ x.t = b)) then capL F a b else capL G a b
  | [], G => rfl
  | x :: F, G => by
    rw [List.cons_append, capL, capL, List.any_cons]
    by_cases h : x.f = a ∧ x.t = b
    · simp [h]
    · rw [if_neg h, capL_app a b F G]
      simp [h]
theorem rowE_any (c : Caps) (r a b : Nat) : ∀ k, (rowE c r k).any (fun x => decide (x.f = a ∧ x.t = b)) = decide (r = a ∧ b < k ∧ 0 < c a b)
  | 0 => by simp [rowE]
  | k + 1 => by
    rw [rowE, List.any_append, rowE_any c r a b k]
    by_cases h : 0 < c r k
    · rw [if_pos h]
      simp only [List.any_cons, List.any_nil, Bool.or_false]
      rw [Bool.eq_iff_iff]
      simp only [Bool.or_eq_true, decide_eq_true_eq]
      constructor
      · rintro (⟨h1, h2, h3⟩ | ⟨rfl, rfl⟩)
        · exact ⟨h1, by omega, h3⟩
        · exact ⟨rfl, by omega, h⟩
      · rintro ⟨rfl, h2, h3⟩
        by_cases e : k = b
        · exact .inr ⟨rfl, e⟩
        · exact .inl ⟨rfl, by omega, h3⟩
    · rw [if_neg h]
      simp only [List.any_nil, Bool.or_false]
      rw [Bool.eq_iff_iff]
      simp only [decide_eq_true_eq]
      constructor
      · rintro ⟨h1, h2, h3⟩; exact ⟨h1, by omega, h3⟩
      · rintro ⟨rfl, h2, h3⟩
        refine ⟨rfl, ?_, h3⟩
        have : b ≠ k := fun e => by subst e; exact h h3
        omega
theorem rowE_cap (c : Caps) (r a b : Nat) : ∀ k, capL (rowE c r k) a b = if r = a ∧ b < k ∧ 0 < c a b then c a b else 0
  | 0 => by simp [rowE, capL]
  | k + 1 => by
    rw [rowE, capL_app, rowE_any, rowE_cap c r a b k]
    by_cases h1 : r = a ∧ b < k ∧ 0 < c a b
    · rw [if_pos (by simpa using h1), if_pos h1, if_pos ⟨h1.1, by omega, h1.2.2⟩]
    · rw [if_neg (by simpa using h1)]
      by_cases h : 0 < c r k
      · rw [if_pos h]
        show (if r = a ∧ k = b then c r k else 0) = _
        by_cases h2 : r = a ∧ k = b
        · obtain ⟨rfl, rfl⟩ := h2
          rw [if_pos ⟨rfl, rfl⟩, if_pos ⟨rfl, by omega, h⟩]
        · rw [if_neg h2, if_neg]
          rintro ⟨e1, e2, e3⟩
          exact h1 ⟨e1, by have : b ≠ k := fun e => h2 ⟨e1, e.symm⟩
                           omega, e3⟩
      · rw [if_neg h]
        show (0 : Int) = _
        rw [if_neg]
        rintro ⟨rfl, e2, e3⟩
        exact h1 ⟨rfl, by have : b ≠ k := fun e => by subst e; exact h e3
                          omega, e3⟩
theorem matE_any (c : Caps) (a b : Nat) : ∀ k, (matE c k).any (fun x => decide (x.f = a ∧ x.t = b)) = decide (a < k ∧ b < 17 ∧ 0 < c a b)
  | 0 => by simp [matE]
  | k + 1 => by
    rw [matE, List.any_append, matE_any c a b k, rowE_any]
    rw [Bool.eq_iff_iff]
    simp only [Bool.or_eq_true, decide_eq_true_eq]
    constructor
    · rintro (⟨h1, h2, h3⟩ | ⟨rfl, h2, h3⟩)
      · exact ⟨by omega, h2, h3⟩
      · exact ⟨by omega, h2, h3⟩
    · rintro ⟨h1, h2, h3⟩
      by_cases e : k = a
      · exact .inr ⟨e, h2, h3⟩
      · exact .inl ⟨by omega, h2, h3⟩
theorem matE_cap (c : Caps) (a b : Nat) : ∀ k, capL (matE c k) a b = if a < k ∧ b < 17 ∧ 0 < c a b then c a b else 0
  | 0 => by simp [matE, capL]
  | k + 1 => by
    rw [matE, capL_app, matE_any, matE_cap c a b k, rowE_cap]
    by_cases h : a < k ∧ b < 17 ∧ 0 < c a b
    · rw [if_pos (by simpa using h), if_pos h, if_pos ⟨by omega, h.2⟩]
    · rw [if_neg (by simpa using h)]
      by_cases h2 : k = a ∧ b < 17 ∧ 0 < c a b
      · rw [if_pos h2, if_pos ⟨by omega, h2.2⟩]
      · rw [if_neg h2, if_neg]
        rintro ⟨h3, h4⟩
        by_cases e : k = a
        · exact h2 ⟨e, h4⟩
        · exact h ⟨by omega, h4⟩
/-- Capacities such as a graph has. -/
structure GoodC (c : Caps) : Prop where
  ge : ∀ a b, 0 ≤ c a b
  may : ∀ a b, 0 < c a b → mayP a = true ∧ mayP b = true
theorem GoodC.cap {c : Caps} (h : GoodC c) (a b : Nat) : capL (edgesOf c) a b = c a b := by
  unfold edgesOf
  rw [matE_cap]
  by_cases hp : 0 < c a b
  · have := h.may a b hp
    have h1 := mayP_true this.1
    have h2 := mayP_true this.2
    rw [if_pos ⟨by omega, by omega, hp⟩]
  · rw [if_neg (fun h => hp h.2.2)]
    have := h.ge a b
    omega
theorem GoodC.capOf {c : Caps} (h : GoodC c) (a b : Nat) : capOf c a b = c a b := by
  unfold Proofs.Ytglehneaphigdaa.capOf
  split
  · rfl
  · rename_i hn
    have := h.ge a b
    by_cases hp : 0 < c a b
    · exact absurd (h.may a b hp) hn
    · omega
theorem GoodC.zero : GoodC zeroC := ⟨fun _ _ => Int.le_refl _, fun _ _ h => absurd h (by show ¬ (0 : Int) < 0; omega)⟩
theorem GoodC.upd {c : Caps} (h : GoodC c) {a b : Nat} {n : Int} (ha : mayP a = true) (hb : mayP b = true) (hn : 0 ≤ n) : GoodC (upd2 c a b n) := by
  refine ⟨fun x y => ?_, fun x y hp => ?_⟩
  · unfold upd2
    split
    · exact hn
    · exact h.ge x y
  · unfold upd2 at hp
    split at hp
    · rename_i e; obtain ⟨rfl, rfl⟩ := e; exact ⟨ha, hb⟩
    · exact h.may x y hp
theorem GoodC.row0 {c : Caps} (h : GoodC c) : ∀ k, rowE c 0 k = []
  | 0 => rfl
  | k + 1 => by
    rw [rowE, h.row0 k, if_neg]
    · rfl
    · intro hp
      have := (h.may 0 k hp).1
      simp [mayP] at this
theorem GoodC.col0 {c : Caps} (h : GoodC c) (a : Nat) : rowE c a 1 = [] := by
  rw [rowE, rowE, if_neg]
  · rfl
  · intro hp
    have := (h.may a 0 hp).2
    simp [mayP] at this
theorem GoodC.mat1 {c : Caps} (h : GoodC c) : matE c 1 = [] := by rw [matE, matE, h.row0]; rfl
/-- The cells of a flow in a list that can be read. -/
theorem flwL_rd {w : World} {b o k : Nat} {F : List Flw} {x : Flw} (R : Rd w (some ⟨b, o, none⟩) (flwL F)) (hk : F[k]? = some x) : w.cell? ⟨b, o + k * 3, none⟩ = some (.int .u8 (x.f : Int)) ∧ w.cell? ⟨b, o + k * 3 + 1, none⟩ = some (.int .u8 (x.t : Int)) ∧ w.cell? ⟨b, o + k * 3 + 2, none⟩ = some (.int .i64 x.n) := by
  have hlt : k < F.length := by
    apply Classical.byContradiction
    intro hn
    rw [List.getElem?_eq_none (by omega)] at hk
    cases hk
  have hl := flwL_len F
  have hat := flwL_at F k hlt
  rw [List.getElem?_eq_getElem hlt] at hk
  rw [Option.some.inj hk] at hat
  have key : ∀ j v, j < 3 → (flwV x)[j]? = some v → w.cell? ⟨b, o + k * 3 + j, none⟩ = some v := fun j v hj hv => by
    rw [← hat, List.getElem?_take, if_pos hj, List.getElem?_drop] at hv
    have hi : k * 3 + j < (flwL F).length := by omega
    rw [List.getElem?_eq_getElem hi] at hv
    have := R.get hi
    rw [Nat.add_assoc, this]
    exact hv
  exact ⟨key 0 _ (by omega) rfl, key 1 _ (by omega) rfl, key 2 _ (by omega) rfl⟩
theorem rowT_rd {W w : World} {l : List Thing} {e size n c : Nat} {a : Option Addr} {xs : List Value} (H : Heap W l w) (m : RowT e size (.slice a n c) n xs ∈ l) : Rd w a xs := by
  obtain ⟨a', c', he, hr, _⟩ := (Own.ofRow (H.ok _ m)).rd
  simp only [Value.slice.injEq, true_and] at he
  obtain ⟨rfl, _⟩ := he
  exact hr
theorem rowT_form {w : World} {e size n : Nat} {v : Value} {xs : List Value} (h : (RowT e size v n xs).ok w) : ∃ a c, v = .slice a n c ∧ n ≤ c ∧ c ≤ maxLen := by
  obtain ⟨a, c, e, _, h1, h2, _⟩ := (Own.ofRow h).rd
  exact ⟨a, c, e, h1, h2⟩
structure CapLoop (W : World) (l : List Thing) (F : List Flw) (n f t : Nat) (i : Value) (wr : World) : Prop where
  out : ∃ k : Nat, i = .int .i64 (k : Int) ∧ k ≤ n ∧ capL F f t = capL (F.drop k) f t ∧ Heap W l wr
section
variable {W w : World} {l : List Thing} {p n : Nat} {a : Option Addr} {cc : Nat} {F : List Flw}
set_option maxRecDepth 100000
set_option maxHeartbeats 4000000
theorem rcap_H (f t : Nat) (hf : f ≤ 255) (ht : t ≤ 255) (m1 : RgT p (.slice a n cc) ∈ l) (m2 : FlT (.slice a n cc) n F ∈ l) (hl : F.length = n) (hn : n ≤ 1000000) (hF : ∀ x ∈ F, FlwOk x) :
    AnsH W l 22 #[.pointer (some ⟨p, 0, none⟩), .int .u8 (f : Int), .int .u8 (t : Int)] (.int .i64 (capL F f t)) := by
  intro w H
  have HL := Lib.hid hl
  have HF := Lib.hid hF
  have HR := Lib.hid (show ∀ w', Heap W l w' → Rd w' a (flwL F) from fun w' h => rowT_rd h m2)
  clear hl hF
  generalize hcap : capL F f t = cv
  have HC := Lib.hid hcap
  clear hcap
  go_enter Try.func22, Try.ntmps22
  go_wp2_with (go_skip)
  have H0 := H
  clear H
  go_loopw [7] (fun i wr => CapLoop W l F n f t i wr) (fun i _ => n - (intOf i).toNat)
  case atStart => exact ⟨0, rfl, by omega, rfl, H0⟩
  case round =>
    obtain ⟨k, rfl, hk, hG, H'⟩ := hrel.out
    clear H0 hrel
    have H := H'
    clear H'
    by_cases hlt : k < n
    · have hkF : k < F.length := by rw [HL.out]; exact hlt
      have hx : F[k]? = some F[k] := List.getElem?_eq_getElem hkF
      have hok := HF.out _ (List.getElem_mem hkF)
      rw [List.drop_eq_getElem_cons hkF, capL] at hG
      generalize F[k] = x at *
      obtain ⟨b, o, rfl, _⟩ := (HR.out _ H).lt (by rw [flwL_len]; omega)
      have HX := Lib.hid (show ∀ w', Heap W l w' → _ from fun w' h => flwL_rd (HR.out w' h) hx)
      obtain ⟨xf, xt, xn⟩ := x
      obtain ⟨o1, o2, o3, o4⟩ := hok
      simp only at o1 o2 o3 o4 hG
      clear hx hkF
      by_cases e1 : xf = f
      · by_cases e2 : xt = t
        · subst e1 e2
          rw [if_pos ⟨rfl, rfl⟩] at hG
          have g1 : ((xf : Int) == (xf : Int)) = true := by simp
          have g2 : ((xt : Int) == (xt : Int)) = true := by simp
          have HG := Lib.hid hG
          clear hG
          go_wp2_with (first
            | go_skip
            | ((with_reducible show wpList _ _ _ (_ :: _) _ _); (with_reducible apply wpl_loadCH); (· exact cell_flows); (· rfl); (· rfl); (· exact H); (· exact m1); (· exact rgC_g _); (simp only [Act.put, List.setIfInBounds_toArray, List.set_cons_zero, List.set_cons_succ]))
            | ((with_reducible show wpList _ _ _ (_ :: _) _ _); (with_reducible apply wpl_loadCell); (· first | exact cell_party | exact cell_i64); (· rfl); (· rfl); (· first | exact (HX.out _ H).1 | exact (HX.out _ H).2.1 | exact (HX.out _ H).2.2); (simp only [Act.put, List.setIfInBounds_toArray, List.set_cons_zero, List.set_cons_succ])))
          go_ret
          rw [show cv = _ from HC.out.symm.trans HG.out]
          exact ⟨rfl, H⟩
        · rw [if_neg (fun h => e2 h.2)] at hG
          subst e1
          have g1 : ((xf : Int) == (xf : Int)) = true := by simp
          have g2 : ((xt : Int) == (t : Int)) = false := by simp; omega
          have HG := Lib.hid hG
          clear hG
          go_wp2_with (first
            | go_skip
            | ((with_reducible show wpList _ _ _ (_ :: _) _ _); (with_reducible apply wpl_loadCH); (· exact cell_flows); (· rfl); (· rfl); (· exact H); (· exact m1); (· exact rgC_g _); (simp only [Act.put, List.setIfInBounds_toArray, List.set_cons_zero, List.set_cons_succ]))
            | ((with_reducible show wpList _ _ _ (_ :: _) _ _); (with_reducible apply wpl_loadCell); (· first | exact cell_party | exact cell_i64); (· rfl); (· rfl); (· first | exact (HX.out _ H).1 | exact (HX.out _ H).2.1 | exact (HX.out _ H).2.2); (simp only [Act.put, List.setIfInBounds_toArray, List.set_cons_zero, List.set_cons_succ])))
          refine ⟨?_, ?_⟩
          · exact ⟨⟨k + 1, by go_num, by omega, HG.out, H⟩⟩
          · simp [intOf]; omega
      · rw [if_neg (fun h => e1 h.1)] at hG
        have g1 : ((xf : Int) == (f : Int)) = false := by simp; omega
        have HG := Lib.hid hG
        clear hG
        go_wp2_with (first
          | go_skip
          | ((with_reducible show wpList _ _ _ (_ :: _) _ _); (with_reducible apply wpl_loadCH); (· exact cell_flows); (· rfl); (· rfl); (· exact H); (· exact m1); (· exact rgC_g _); (simp only [Act.put, List.setIfInBounds_toArray, List.set_cons_zero, List.set_cons_succ]))
          | ((with_reducible show wpList _ _ _ (_ :: _) _ _); (with_reducible apply wpl_loadCell); (· first | exact cell_party | exact cell_i64); (· rfl); (· rfl); (· first | exact (HX.out _ H).1 | exact (HX.out _ H).2.1 | exact (HX.out _ H).2.2); (simp only [Act.put, List.setIfInBounds_toArray, List.set_cons_zero, List.set_cons_succ])))
        refine ⟨?_, ?_⟩
        · exact ⟨⟨k + 1, by go_num, by omega, HG.out, H⟩⟩
        · simp [intOf]; omega
    · obtain rfl : n = k := by omega
      rw [List.drop_of_length_le (by rw [HL.out]; exact Nat.le_refl _)] at hG
      have HG := Lib.hid (show capL F f t = 0 from hG)
      clear hG
      go_wp2_with (first
        | go_skip
        | ((with_reducible show wpList _ _ _ (_ :: _) _ _); (with_reducible apply wpl_loadCH); (· exact cell_flows); (· rfl); (· rfl); (· exact H); (· exact m1); (· exact rgC_g _); (simp only [Act.put, List.setIfInBounds_toArray, List.set_cons_zero, List.set_cons_succ])))
      go_ret
      rw [show cv = _ from HC.out.symm.trans HG.out]
      exact ⟨rfl, H⟩
end
end Go.Proofs.Ytglehneaphigdaa

/- Append from whatever can be read (nil too); a block's head as a row. -/
namespace Go.Proofs.Ytglehneaphigdaa
open Go.RowKit
set_option linter.unusedSimpArgs false
set_option linter.unusedVariables false
theorem Heap.celRowA {W w : World} {l : List Thing} {g e size n m : Nat} {c : Array Value} (H : Heap W (Cel g c e :: l) w) (hc : c.size = m * size) (hn : n ≤ m) (hm : m ≤ maxLen) : Heap W (RowT e size (.slice (some ⟨g, 0, none⟩) n m) n (c.toList.take (n * size)) :: l) w := by
  have h2 : n * size ≤ m * size := Nat.mul_le_mul_right _ hn
  exact H.head (World.grownBy.refl _ _) ⟨by simp; omega, .inr ⟨g, m, c, rfl, Nat.zero_le _, H.blk List.mem_cons_self, hn, hm, by omega, rfl⟩⟩ (.inl rfl)
section
variable {ops : Array Oper} {rest : List Oper} {o : Oper} {a : Act} {w W : World} {l : List Thing} {Q : Exit → Act → World → Prop}
/-- append(s, x...), x whatever can be read. -/
theorem wpl_appendA {t e size bytes : Nat} {z : Value} (T : SlTy Try.prog t e size bytes z) (hgd : o.guard = none) {s x : Operand}
    (ho : o.op = .call { callee := .builtin .append, args := #[s, x], argTypes := #[t, t] }) {v : Value} (hs : a.eval s = v) {ao : Option Addr} {m c : Nat} (hx : a.eval x = .slice ao m c)
    {n : Nat} {xs news : List Value} (H : Heap W (RowT e size v n xs :: l) w) (hrd : Rd w ao news) (hl : news.length = m * size) (h1 : OneCells news)
    (h63 : n + m ≤ maxLen) (hbytes : (n + m) * bytes ≤ 140737488355328)
    (h : ∀ v' w', (v' = .slice none 0 0 ↔ v = .slice none 0 0 ∧ m = 0) → Heap W (RowT e size v' (n + m) (xs ++ news) :: l) w' → wpList Try.prog ops Q rest (a.put o.dst v') w') : wpList Try.prog ops Q (o :: rest) a w := by
  by_cases hm : m = 0
  · subst hm
    have hn0 : news = [] := List.eq_nil_of_length_eq_zero (by simpa using hl)
    subst hn0
    obtain ⟨i, hi, hz, hsi, hbi⟩ := T.inf
    have hr : (Builtin.append_ #[t, t] o.type #[v, .slice ao 0 c]).run Try.prog w = .ok v w := by
      rcases (H.ok _ List.mem_cons_self).2 with ⟨rfl, rfl⟩ | ⟨g, cap, cur, rfl, _, _, hnc, _⟩
      · cases ao <;> simp [Builtin.append_, run_underlying T.und, sizeOf, typeInfo, hi, Builtin.lenOf, Builtin.firstCells, loadCells, loadCellsFrom]
      · cases ao <;> simp [Builtin.append_, run_underlying T.und, sizeOf, typeInfo, hi, Builtin.lenOf, Builtin.firstCells, hnc, storeCells, loadCells, loadCellsFrom]
    refine wpList_plain hgd fun K hK => ?_
    unfold Oper.wp execOp
    simp only [ho, resolve, invoke, builtin, Sem.run_bind, Sem.run_pure, Result.andThen_ok, List.map_toArray, List.map_cons, List.map_nil, hs, hx, hr]
    exact hK _ _ (h v w ⟨fun e => ⟨e, rfl⟩, fun e => e.1⟩ (by rw [List.append_nil]; exact H))
  · obtain ⟨b, off, rfl, _⟩ := hrd.lt (by rw [hl]; have := T.pos; exact Nat.mul_pos (by omega) this)
    refine wpl_appendH T hgd ho hs hx H hrd hl h1 h63 hbytes fun v' w' H' => h v' w' ⟨fun e => ?_, fun e => absurd e.2 hm⟩ H'
    subst e
    obtain ⟨_, ⟨_, h0⟩ | ⟨g, cap, cur, hv, _⟩⟩ := H'.ok _ List.mem_cons_self
    · omega
    · cases hv
/-- s[:hi]. -/
theorem wpl_cutTo {t e size bytes : Nat} {z : Value} (T : SlTy Try.prog t e size bytes z) {dst : Option Tmp} {ty : TypeId} {pos : String} {after : Array Edge} {guard : Option (Nat × Bool)} {x y : Operand} (hw : Region.wanted ⟨dst, .slice t x none (some y) none, ty, pos, after, guard⟩ (yielded ops a.tmps) = true)
    {ao : Option Addr} {n c hi : Nat} {k : IntKind} (hx : a.eval x = .slice ao n c) (hy : a.eval y = .int k (hi : Int)) (hh : hi ≤ c) (h : wpList Try.prog ops Q rest (a.put dst (.slice ao hi c)) w) : wpList Try.prog ops Q (⟨dst, .slice t x none (some y) none, ty, pos, after, guard⟩ :: rest) a w := by
  refine wpl_pure hw _ (fun w => ?_) h
  have hr := run_cutTo (P := Try.prog) T ao n c hi k hh w
  have hs : (Instr.sliceAt t (.slice ao n c) none (some (.int k (hi : Int))) none).run Try.prog w = .ok (.slice ao hi c) w := by
    unfold Instr.sliceAt
    rw [Sem.run_bind, run_underlying T.und]
    simp only [Result.andThen_ok]
    exact hr
  unfold execOp
  simp only [hx, Option.map_some, hy, Option.map_none, Sem.run_bind, hs, Result.andThen_ok, Sem.run_pure]
/-- s[lo:hi]. -/
theorem wpl_cutBoth {t e size bytes : Nat} {z : Value} (T : SlTy Try.prog t e size bytes z) {dst : Option Tmp} {ty : TypeId} {pos : String} {after : Array Edge} {guard : Option (Nat × Bool)} {x y u : Operand} (hw : Region.wanted ⟨dst, .slice t x (some u) (some y) none, ty, pos, after, guard⟩ (yielded ops a.tmps) = true)
    {ao : Option Addr} {n c lo hi : Nat} {k k2 : IntKind} (hx : a.eval x = .slice ao n c) (hu : a.eval u = .int k (lo : Int)) (hy : a.eval y = .int k2 (hi : Int)) (hl : lo ≤ hi) (hh : hi ≤ c) {ao2 : Option Addr} {m c2 : Nat} (he : cutA ao c lo size = ao2) (hm : hi - lo = m) (hc2 : c - lo = c2) (h : wpList Try.prog ops Q rest (a.put dst (.slice ao2 m c2)) w) : wpList Try.prog ops Q (⟨dst, .slice t x (some u) (some y) none, ty, pos, after, guard⟩ :: rest) a w := by
  subst he hm hc2
  refine wpl_pure hw _ (fun w => ?_) h
  have hr := run_cut (P := Try.prog) T ao n c lo hi k k2 hl hh w
  have hs : (Instr.sliceAt t (.slice ao n c) (some (.int k (lo : Int))) (some (.int k2 (hi : Int))) none).run Try.prog w = .ok (.slice (cutA ao c lo size) (hi - lo) (c - lo)) w := by
    unfold Instr.sliceAt
    rw [Sem.run_bind, run_underlying T.und]
    simp only [Result.andThen_ok]
    exact hr
  unfold execOp
  simp only [hx, Option.map_some, hu, hy, Option.map_none, Sem.run_bind, hs, Result.andThen_ok, Sem.run_pure]
theorem wpQ_loadRdR0 {T n : Nat} {z : Array Value} {dst : Option Tmp} {ty : TypeId} {pos : String} {after : Array Edge} {guard : Option (Nat × Bool)} {x : Operand} {b k : Nat} {K : Act → Prop} {H : Heap W l w} (RT : RowTy T n z) (hw : Region.wanted ⟨dst, .load T x, ty, pos, after, guard⟩ (yielded ops a.tmps) = true) (hx : a.eval x = .pointer (some ⟨b, k, none⟩))
    {xs : List Value} {c1 : Array Value} (R : ∀ w', Heap W l w' → Rd w' (some ⟨b, 0, none⟩) xs) (hn : k + n ≤ xs.length) (h0 : 0 < n) (hv : ((xs.drop k).take n).toArray = c1)
    (h : wpQuiet Try.prog ops (fun w' => ∃ d, w' = H.any d) K rest (a.put dst (.agg c1))) : wpQuiet Try.prog ops (fun w' => ∃ d, w' = H.any d) K (⟨dst, .load T x, ty, pos, after, guard⟩ :: rest) a :=
  wpQ_loadRdR RT hw hx R (Nat.zero_add k).symm hn h0 hv h
end
end Go.Proofs.Ytglehneaphigdaa
