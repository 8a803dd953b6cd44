/- FramesSpoilt: part 9 of its proof: InRound, RangeF, HeapEarly, HeapSoft, FrIter. -/
import Derived.Test.YtlinhcbjljcgbaaDoorFramesSpoiltPart8
import Derived.RangeFuncIn
import Derived.RangeFuncRecord
import Derived.OrdersIn
import Derived.TacticsIn
import Derived.RangeFuncOwn
import Derived.RangeFuncLeaves
import Derived.WalkKit
import Derived.OwnWalkIn
import Derived.TacticsInMore
import Derived.LoopNIn
import Derived.LoopIn
/- What is proved of a region outside serves in a round of a range over a function. -/
namespace Go.Proofs.YtlinhcbjljcgbaaDoor
open Go.RowKit
/-- The wide fence, in a round or not. -/
abbrev WR (ro : Option Nat) : Fence := { Fence.wide with round := ro }
def noDefer (l : List Oper) : Bool := l.all fun o => match o.op with
  | .defer _ => false
  | _ => true
section
variable {ro : Option Nat} {n : Nat} {P : Program} {ops : Array Oper} {Q : Exit → Act → World → Prop}
theorem noDefer_at {l : List Oper} (h : noDefer l = true) {o : Oper} (ho : o ∈ l) : ∀ c, o.op ≠ .defer c := by
  intro c e
  unfold noDefer at h
  have := List.all_eq_true.1 h o ho
  rw [e] at this
  cases this
theorem calls_in {f : FuncId} {args : Array Value} {w : World} {R : Ending → World → Prop} (h : Calls P f args w R) : CallsIn (WR ro) n P f args w R := (callsIn_wide (n := n)).2 h
theorem rows_in {row : String} {args : Array Value} {w : World} {R : Value → World → Prop} (h : Rows P row args w R) : RowsIn (WR ro) n P row args w R := fun c cs _ => by
  obtain ⟨v, w', r, s⟩ := h c cs
  exact ⟨v, w', r, stepsIn_wide.2 s⟩
theorem oper_in {o : Oper} {a : Act} {w : World} {K : Act → World → Prop} (hd : ∀ c, o.op ≠ .defer c) (h : o.wp P a w K Q) : o.wpIn (WR ro) n P a w K Q := by
  refine ⟨fun _ _ => trivial, ?_⟩
  rw [Oper.semAt_eq _ _ _ hd]
  unfold Oper.wp at h
  generalize (execOp a.eval o).run P w = r at *
  cases r with
  | ok x w' =>
    cases x <;> simp only [Oper.upon, Oper.uponIn] at h ⊢ <;>
      first
        | exact h
        | exact ⟨fun h0 => absurd h0 (by simp [Fence.wide]), calls_in (Calls.mono h fun e w'' he => by cases e <;> exact he)⟩
        | exact ⟨fun h0 => absurd h0 (by simp [Fence.wide]), rows_in h⟩
        | exact h.elim
  | halt x w' => cases x <;> simp only [Oper.upon, Oper.uponIn] at h ⊢ <;> first | exact h | exact h.elim
theorem wpList_in (hQ : ¬ LetsOut Q) : ∀ (l : List Oper) (a : Act) (w : World), noDefer l = true → wpList P ops Q l a w → wpListIn (WR ro) n P ops Q l a w
  | [], _, _, _, h => h
  | o :: l, a, w, hd, h => by
    have hd1 := noDefer_at hd (List.mem_cons_self (a := o) (l := l))
    have hd2 : noDefer l = true := by unfold noDefer at hd ⊢; rw [List.all_cons, Bool.and_eq_true] at hd; exact hd.2
    unfold wpList at h
    unfold wpListIn
    split
    · rename_i hw
      rw [if_pos hw] at h
      rcases h with h | h
      · exact Oper.wpIn_mono (fun a w h => wpList_in hQ l a w hd2 h) (oper_in hd1 h)
      · exact absurd h.2 hQ
    · rename_i hw
      rw [if_neg hw] at h
      exact ⟨fun _ _ => trivial, wpList_in hQ l _ w hd2 h⟩
theorem wpOp_in {i : Nat} {a : Act} {w : World} {K K' : Act → World → Prop} (hQ : ¬ LetsOut Q) (hd : noDefer ops.toList = true) (hK : ∀ a w, K a w → K' a w) (h : wpOp P ops Q i K a w) : wpOpIn (WR ro) n P ops Q i K' a w := by
  unfold wpOp at h
  unfold wpOpIn
  cases ho : ops[i]? with
  | none =>
    simp only [ho] at h ⊢
    exact hK _ _ h
  | some o =>
    simp only [ho] at h ⊢
    split
    · rename_i hw
      rw [if_pos hw] at h
      rcases h with h | h
      · refine Oper.wpIn_mono hK (oper_in (noDefer_at hd ?_) h)
        have := Array.getElem?_eq_some_iff.1 ho
        obtain ⟨hi, rfl⟩ := this
        simp
      · exact absurd h.2 hQ
    · rename_i hw
      rw [if_neg hw] at h
      exact ⟨fun _ _ => trivial, hK _ _ h⟩
theorem wpAny_in {md : Region.Mode} (hQ : ¬ LetsOut Q) (hd : noDefer ops.toList = true) : ∀ (f : Nat) (listed : Array Bool) (a : Act) (w : World), wpAny P md ops Q f listed a w → wpAnyIn (WR ro) n P md ops Q f listed a w
  | 0, _, _, _, h => h
  | f + 1, listed, a, w, h => ⟨h.1, fun i hi => wpOp_in hQ hd (fun a w h => wpAny_in hQ hd f _ a w h) (h.2 i hi)⟩
theorem region_in {id : Nat} {lo : List Oper} {a : Act} {w : World} (hd : noDefer lo = true) (hQ : ¬ LetsOut Q) (h : wpList P lo.toArray Q lo a w) : (Code.region id lo.toArray false).wpIn (WR ro) n P Q a w :=
  wpIn_region_lit (wpList_in hQ lo a w hd h)
theorem region_in_any {id : Nat} {lo : List Oper} {a : Act} {w : World} (hm : P.follows .mixedOrders = true) (hd : noDefer lo = true) (hQ : ¬ LetsOut Q) (h : wpAny P .any lo.toArray Q lo.length (Array.replicate lo.length false) a { w with drawn := w.drawn + 1 }) : (Code.region id lo.toArray true).wpIn (WR ro) n P Q a w :=
  wpIn_region_any hm (by simpa using wpAny_in hQ (by simpa using hd) _ _ _ _ h)
theorem region_in_K {W : World} {id : Nat} {a : Act} {w : World} {l : List Thing} {lo : List Oper} (loud ord : List Nat) (base : List Thing) (H : Heap W l w) (hG : Keeps base l) (hm : P.follows .mixedOrders = true) (hd : noDefer lo = true) (hQ : ¬ LetsOut Q) (hB : Region.lexOB lo.toArray loud ord = true)
    (h : wpK P lo.toArray W loud (fun l' a' => ∀ w', Heap W l' w' → Q .normal a' w') ord base l a) : (Code.region id lo.toArray true).wpIn (WR ro) n P Q a w := by
  simp only [Region.lexOB, Bool.and_eq_true, beq_iff_eq] at hB
  refine region_in_any hm hd hQ ?_
  have := WholeK.lexO (md := .any) hB.1.1 ord base l _ a hB.1.2 h
  have h2 := WholeK.any (Q := Q) (fun l a w H h => h w H) ord.length base l _ a _ hG H.drew this
  rw [hB.2] at h2
  simpa using h2
theorem region_in_O {W : World} {id : Nat} {a : Act} {w : World} {l : List Thing} {lo : List Oper} (loud ord : List Nat) (G : List Thing → Prop) (H : Heap W l w) (hG : G l) (hm : P.follows .mixedOrders = true) (hd : noDefer lo = true) (hQ : ¬ LetsOut Q) (hB : Region.lexOB lo.toArray loud ord = true)
    (h : wpO P lo.toArray W G loud (fun l' a' => ∀ w', Heap W l' w' → Q .normal a' w') ord l a) : (Code.region id lo.toArray true).wpIn (WR ro) n P Q a w := by
  simp only [Region.lexOB, Bool.and_eq_true, beq_iff_eq] at hB
  refine region_in_any hm hd hQ ?_
  have := WholeG.lexO (md := .any) hB.1.1 ord l _ a hB.1.2 h
  have h2 := WholeG.any (Q := Q) (fun l a w H h => h w H) ord.length l _ a _ hG H.drew this
  rw [hB.2] at h2
  simpa using h2
end
end Go.Proofs.YtlinhcbjljcgbaaDoor

/- A range over a function, with memory as things: the statement; one call of yield; the function's return. -/
namespace Go.Proofs.YtlinhcbjljcgbaaDoor
open Go.RowKit
/-- A block that is no cells. -/
def ObjT (k : Nat) (o : Obj) : Thing := ⟨some k, fun w => w.heap[k]? = some o, fun _ _ h ho => (h k rfl).trans ho⟩
section
variable {W w : World} {l : List Thing}
theorem Heap.allocO (H : Heap W l w) (o : Obj) : Heap W (ObjT w.heap.size o :: l) (w.alloc o) :=
  H.add (World.grownBy_alloc w o none) (World.alloc_heap_new w o) fun k e => by
    cases e
    exact ⟨Nat.le_refl _, by rw [World.size_alloc]; omega⟩
theorem Heap.putO {k : Nat} {o o' : Obj} (H : Heap W (ObjT k o :: l) w) : Heap W (ObjT k o' :: l) (w.putObj k o') := by
  have hk : w.heap[k]? = some o := H.ok _ List.mem_cons_self
  refine H.head (grownBy_putObj' w k o') ?_ (.inl rfl)
  have hlt : k < w.heap.size := (Array.getElem?_eq_some_iff.1 hk).1
  show (w.putObj k o').heap[k]? = some o'
  unfold World.putObj
  simp [hlt]
/-- The record of a loop. -/
abbrev loopR (st : LoopState) (pe : Option Code) (fn : FuncId) (a : Act) (ps : Array Tmp) (assign body : Code) (D : Nat) : Loop := { state := st, pending := pe, fn, tmps := a.tmps, params := ps, assign, body, defers := D }
/-- The statement. -/
theorem rangeF {P : Program} {g : Operand} {ps : Array Tmp} {assign body : Code} {Q : Exit → Act → World → Prop} {a : Act} {gf : Nat} {lb : Array Value} (hg : a.eval g = .func (.func gf) #[] lb) (eg : ∀ args w, (callFunc gf args).run P w = .ok (.enter gf args) w) (H : Heap W l w)
    (h : ∀ (fn : FuncId) (D : Nat) (w1 : World) (r : Loop), r = loopR .ready none fn a ps assign body D → Heap W (ObjT (D + 1) (.loop r) :: ObjT D (.deferred (some [])) :: l) w1 →
      CallsIn (WR none) 2 P gf (#[.func (.yield (D + 1)) #[] #[]] ++ lb) w1 (rangePost (WR none) 3 P (D + 1) Q { a with defers := { target := .collected D, args := #[] } :: a.defers })) :
    (Code.rangeFunc g ps assign body).wpIn (WR none) 3 P Q a w := by
  refine wpIn_rangeFunc ?_
  intro fn _
  have H1 := (H.allocO (.deferred (some []))).allocO (.loop (loopR .ready none fn a ps assign body w.heap.size))
  rw [World.size_alloc] at H1
  have hc := h fn w.heap.size _ _ rfl H1
  clear h H1
  obtain ⟨D, hD⟩ : ∃ D, D = w.heap.size := ⟨_, rfl⟩
  rw [← hD] at hc
  obtain ⟨r, hr⟩ : ∃ r, r = loopR .ready none fn a ps assign body D := ⟨_, rfl⟩
  have e1 : (Instr.enterLoop fn a.tmps ps assign body none).run P w = .ok (D + 1, [{ target := .collected D, args := #[] }]) ((w.alloc (.deferred (some []))).alloc (.loop r)) := by
    rw [hr, hD]; exact run_enterLoop_outer _ _ _ _ _
  rw [← hr] at hc
  clear hr
  obtain ⟨W1, hW⟩ : ∃ W1, W1 = (w.alloc (.deferred (some []))).alloc (.loop r) := ⟨_, rfl⟩
  rw [← hW] at hc e1
  clear hW H
  have e2 : (resolve a.eval (rangeCall g (D + 1)) 0).run P W1 = .ok { target := .fn (.func gf) lb, args := #[.func (.yield (D + 1)) #[] #[]] } W1 := by
    simp only [resolve, hg]
    simp [go_sem]
  have e3 : (invoke (.fn (.func gf) lb) #[.func (.yield (D + 1)) #[] #[]]).run P W1 = .ok (.enter gf (#[.func (.yield (D + 1)) #[] #[]] ++ lb)) W1 := by
    simp [invoke, go_sem, eg]
  exact ⟨D + 1, _, W1, _, W1, gf, _, W1, e1, e2, fun _ _ => trivial, e3, fun h => absurd h (by simp [Fence.wide]), hc⟩
theorem Heap.recO {k : Nat} {r : Loop} (H : Heap W (ObjT k (.loop r) :: l) w) : w.heap[k]? = some (.loop r) := H.ok (ObjT k (.loop r)) List.mem_cons_self
/-- How a round's body may be left. -/
def BodyQ (P : Program) (W : World) (k : Nat) (r : Loop) (go : List Thing → Prop) (leave : Nat → List Thing → Prop) : Exit → Act → World → Prop
  | .normal, _, w' => ∃ l', Heap W (ObjT k (.loop r) :: l') w' ∧ go l'
  | .exit id, _, w' => ∃ l', Heap W (ObjT k (.loop r) :: l') w' ∧ leave id l'
  | _, _, _ => False
theorem bodyQ_out {P : Program} {W : World} {k : Nat} {r : Loop} {go : List Thing → Prop} {leave : Nat → List Thing → Prop} : ¬ LetsOut (BodyQ P W k r go leave) := fun ⟨_, _, h⟩ => h
/-- One call of yield. -/
theorem upon_yield {P : Program} {Q : Exit → Act → World → Prop} {a a0 a1 : Act} {o : Oper} {K : Act → World → Prop} {v : Value} {k D : Nat} {p : Tmp} {fn : FuncId} {assign body : Code}
    {r0 r1 : Loop} (h0 : r0 = loopR .ready none fn a0 #[p] assign body D) (h1 : r1 = loopR .busy none fn a0 #[p] assign body D) (H : Heap W (ObjT k (.loop r0) :: l) w)
    (hassign : ∀ K : Act → World → Prop, K a1 w → assign.wpIn (WR (some k)) 1 P (Exit.then K (fun _ _ _ => False)) { tmps := a0.tmps.setIfInBounds p v, defers := [] } w)
    (go : List Thing → Prop) (leave : Nat → List Thing → Prop)
    (hbody : ∀ w1, Heap W (ObjT k (.loop r1) :: l) w1 → body.wpIn (WR (some k)) 1 P (BodyQ P W k r1 go leave) a1 w1)
    (hgo : ∀ l' w', go l' → Heap W (ObjT k (.loop r0) :: l') w' → K (a.put o.dst (.bool true)) w')
    (hleave : ∀ id l' w', leave id l' → Heap W (ObjT k (.loop (loopR .done (some (.exit id)) fn a0 #[p] assign body D)) :: l') w' → K (a.put o.dst (.bool false)) w') :
    o.uponIn (WR none) 2 P a K Q ((Instr.yield k #[v]).run P w) := by
  subst h0 h1
  have hrec := H.recO
  have e1 : (Instr.yield k #[v]).run P w = .ok (.round k fn (a0.tmps.setIfInBounds p v) assign body) w := by
    have hy2 := run_yield (P := P) (args := #[v]) hrec rfl
    simp only [loopR] at hy2
    have hz : (#[p] : Array Tmp).zip #[v] = #[(p, v)] := by apply Array.ext'; simp
    rw [hz] at hy2
    simpa using hy2
  rw [e1, Oper.uponIn_round]
  refine ⟨fun h => absurd h (by simp [Fence.wide]), ?_⟩
  refine roundIn_of_wpIn (F := WR none) trivial (hassign _ ?_)
  have e2 := run_beginRound (P := P) hrec rfl
  refine ⟨_, e2, ?_⟩
  refine wpIn_mono (hbody _ H.putO) ?_
  intro e a' w' hB
  cases e with
  | normal =>
    obtain ⟨l', H', hg⟩ := hB
    have e3 := run_endRound (P := P) none H'.recO
    exact ⟨_, _, e3, hgo l' _ hg H'.putO⟩
  | exit id =>
    obtain ⟨l', H', hg⟩ := hB
    have e3 := run_endRound (P := P) (some (.exit id)) H'.recO
    exact ⟨_, _, e3, hleave id l' _ hg H'.putO⟩
  | ret => exact hB.elim
  | goto t => exact hB.elim
  | panic c => exact hB.elim
  | outgrown => exact hB.elim
/-- At the statement's end. -/
theorem rangePost_end {P : Program} {Q : Exit → Act → World → Prop} {a : Act} {k : Nat} {r : Loop} {v : Value} (hr : r.state ≠ .busy) (H : Heap W (ObjT k (.loop r) :: l) w)
    (h : ∀ w', Heap W l w' → match r.pending with
      | none => Q .normal a w'
      | some c => c.wpIn (WR none) 3 P Q a w') : rangePost (WR none) 3 P k Q a (.returned v) w :=
  ⟨_, _, run_endLoop H.recO hr, by
    have H2 := (H.putO (o' := .loop { r with state := .exhausted })).tail
    have h2 := h _ H2
    split at h2 <;> simp_all⟩
/-- The statement, whose body may leave it by its own exit: one tail behind it. -/
theorem rangeP {P : Program} {g : Operand} {ps : Array Tmp} {assign body : Code} {K : Act → World → Prop} {Q' : Exit → Act → World → Prop} {a : Act} {gf : Nat} {lb : Array Value} (T : Nat → World → Prop) (hg : a.eval g = .func (.func gf) #[] lb) (eg : ∀ args w, (callFunc gf args).run P w = .ok (.enter gf args) w) (H : Heap W l w)
    (htail : ∀ (D : Nat) (w' : World), T D w' → K { a with defers := { target := .collected D, args := #[] } :: a.defers } w')
    (h : ∀ (fn : FuncId) (D : Nat) (w1 : World) (r : Loop), r = loopR .ready none fn a ps assign body D → Heap W (ObjT (D + 1) (.loop r) :: ObjT D (.deferred (some [])) :: l) w1 →
      CallsIn (WR none) 2 P gf (#[.func (.yield (D + 1)) #[] #[]] ++ lb) w1 fun e w3 => ∃ v r' l', e = .returned v ∧ r'.state ≠ .busy ∧ (r'.pending = none ∨ r'.pending = some (.exit 0)) ∧ Heap W (ObjT (D + 1) (.loop r') :: l') w3 ∧ ∀ w', Heap W l' w' → T D w') :
    (Code.rangeFunc g ps assign body).wp P (Exit.inBlock 0 (Exit.then K Q')) a w := by
  refine (wpIn_wide (n := 3)).1 ?_
  refine rangeF hg eg H ?_
  intro fn D w1 r hr H1
  refine CallsIn.mono (h fn D w1 r hr H1) ?_
  rintro e w3 ⟨v, r', l', rfl, hs, hp, H3, hT⟩
  refine rangePost_end hs H3 ?_
  intro w' H4
  have hk := htail D w' (hT w' H4)
  rcases hp with hp | hp
  · rw [hp]
    exact hk
  · rw [hp]
    exact wpIn_exit hk
end
end Go.Proofs.YtlinhcbjljcgbaaDoor

/- A region that draws its order, with loud operations in one order, whose reads may be of what the loud ones change: a read that every loud one stands behind reads the things as they are (a swap: s[i], s[j] = s[j], s[i]). -/
namespace Go.Proofs.YtlinhcbjljcgbaaDoor
open Go.RowKit
set_option linter.unusedVariables false
section
variable {P : Program} {ops : Array Oper} {md : Region.Mode} {W : World} {G : List Thing → Prop} {loud : List Nat}
def WholeE (P : Program) (md : Region.Mode) (ops : Array Oper) (W : World) (G : List Thing → Prop) (loud : List Nat) (K : List Thing → Act → Prop) : Nat → List Thing → Array Bool → Act → Prop
  | 0, l, listed, a => Region.ready md ops listed = [] ∧ K l a
  | f + 1, l, listed, a => Region.ready md ops listed ≠ [] ∧ ∀ i ∈ Region.ready md ops listed, ∃ o, ops[i]? = some o ∧
      ((∃ v, YieldsG P ops W (fun l' => l' = l) o v a ∧ WholeE P md ops W G loud K f l (listed.setIfInBounds i true) (a.put o.dst v)) ∨
       (loud.contains i = true ∧ LoudG P ops W o l a fun l' u => G l' ∧ WholeE P md ops W G loud K f l' (listed.setIfInBounds i true) (a.put o.dst u)))
theorem WholeE.any {K : List Thing → Act → Prop} {Q : Exit → Act → World → Prop} (hK : ∀ l a w, Heap W l w → K l a → Q .normal a w) :
    ∀ (f : Nat) (l : List Thing) (listed : Array Bool) (a : Act) (w : World), Heap W l w → WholeE P md ops W G loud K f l listed a → wpAny P md ops Q f listed a w := by
  intro f
  induction f with
  | zero => intro l listed a w H h; exact ⟨h.1, hK _ _ _ H h.2⟩
  | succ f ih =>
    intro l listed a w H h
    refine ⟨fun h0 => absurd h0 h.1, fun i hi => ?_⟩
    obtain ⟨o, ho, h⟩ := h.2 i hi
    rcases h with ⟨v, hy, h⟩ | ⟨_, h⟩
    · refine wpOp_of_qOp (C := fun w' => ∃ d, w' = H.any d) (H.any_of H) (fun a' w' hw' ha' => ?_) ((hy l rfl w H).qOp ho (K := fun a' => a' = a.put o.dst v) rfl)
      obtain ⟨d, rfl⟩ := hw'
      subst ha'
      exact ih _ _ _ _ (H.any_heap d) h
    · obtain ⟨l', u, w', hr, H', _, hk⟩ := h.2 w H
      unfold wpOp
      simp only [ho]
      rw [if_pos h.1]
      refine .inl ?_
      unfold Oper.wp
      rcases hr with hr | ⟨hr, rfl⟩ <;> rw [hr] <;> exact ih _ _ _ _ H' hk
/-- Every loud one stands behind it. -/
def Region.early (md : Region.Mode) (ops : Array Oper) (loud : List Nat) (k : Nat) : Bool := loud.all fun j => match ops[j]? with
  | some o => o.after.any fun e => Region.binds md e && e.on == k
  | none => true
theorem Region.early_spec {k j : Nat} {o : Oper} (h : Region.early md ops loud k = true) (hj : loud.contains j = true) (ho : ops[j]? = some o) : ∃ e ∈ o.after, Region.binds md e = true ∧ e.on = k := by
  unfold Region.early at h
  rw [List.all_eq_true] at h
  have := h j (by simpa using hj)
  rw [ho] at this
  simp only [Array.any_eq_true, Bool.and_eq_true, beq_iff_eq] at this
  obtain ⟨i, hi, h1, h2⟩ := this
  exact ⟨o.after[i], Array.getElem_mem hi, h1, h2⟩
/-- It yields v: whatever the things, or early, as they are. -/
def Firm (P : Program) (md : Region.Mode) (ops : Array Oper) (W : World) (G : List Thing → Prop) (loud : List Nat) (k : Nat) (l : List Thing) (o : Oper) (v : Value) (a : Act) : Prop :=
  (G l ∧ YieldsG P ops W G o v a) ∨ (Region.early md ops loud k = true ∧ YieldsG P ops W (fun l' => l' = l) o v a)
theorem Firm.now {k : Nat} {l : List Thing} {o : Oper} {v : Value} {a : Act} (h : Firm P md ops W G loud k l o v a) : YieldsG P ops W (fun l' => l' = l) o v a := by
  rcases h with ⟨hg, h⟩ | ⟨_, h⟩
  · intro l' e w H; subst e; exact h _ hg w H
  · exact h
theorem Firm.of_same {k : Nat} {l : List Thing} {o : Oper} {v : Value} {a a' : Act} (h : Firm P md ops W G loud k l o v a) (he : execOp a'.eval o = execOp a.eval o)
    (hw : Region.wanted o (yielded ops a'.tmps) = Region.wanted o (yielded ops a.tmps)) : Firm P md ops W G loud k l o v a' := by
  rcases h with ⟨hg, h⟩ | ⟨h0, h⟩
  · exact .inl ⟨hg, h.of_same he hw⟩
  · exact .inr ⟨h0, h.of_same he hw⟩
theorem WholeE.first {i : Nat} {oi : Oper} {v : Value} {K : List Thing → Act → Prop} (hi : ops[i]? = some oi) (hsel : ∀ (j : Nat) (o : Oper) cs b, ops[j]? = some o → o.op ≠ .select cs b) :
    ∀ (f : Nat) (l : List Thing) (listed : Array Bool) (a : Act),
      (∀ j oj, ops[j]? = some oj → j ≠ i → listed.getD j true = false → (∀ e ∈ oj.after, Region.binds md e = true → e.on ≠ i) → oi.apart ops oj = true) →
      i ∈ Region.ready md ops listed → Firm P md ops W G loud i l oi v a → WholeE P md ops W G loud K f l (listed.setIfInBounds i true) (a.put oi.dst v) → WholeE P md ops W G loud K (f + 1) l listed a := by
  intro f
  induction f with
  | zero =>
    intro l listed a _ hr hy H
    refine ⟨fun h => by rw [h] at hr; simp at hr, fun j hj => ?_⟩
    by_cases e : j = i
    · subst e; exact ⟨oi, hi, .inl ⟨v, hy.now, H⟩⟩
    · have := ready_mono hj e
      rw [H.1] at this; cases this
  | succ f ih =>
    intro l listed a hfree hr hy H
    have hun := (mem_ready.1 hr).1
    refine ⟨fun h => by rw [h] at hr; simp at hr, fun j hj => ?_⟩
    by_cases e : j = i
    · subst e; exact ⟨oi, hi, .inl ⟨v, hy.now, H⟩⟩
    · obtain ⟨hjun, oj, hoj, hall⟩ := mem_ready.1 hj
      have hnot : ∀ e ∈ oj.after, Region.binds md e = true → e.on ≠ i := fun e he hb heq => by
        have := hall e he hb
        rw [heq, getD_both hun] at this
        cases this
      obtain ⟨h1, h2, h3⟩ := Oper.apart_spec (hfree j oj hoj e hjun hnot)
      have hsi := fun cs b => hsel i oi cs b hi
      have hsj := fun cs b => hsel j oj cs b hoj
      have hfree' : ∀ k ok, ops[k]? = some ok → k ≠ i → (listed.setIfInBounds j true).getD k true = false →
          (∀ e ∈ ok.after, Region.binds md e = true → e.on ≠ i) → oi.apart ops ok = true := fun k ok hk hki hun hno => by
        refine hfree k ok hk hki ?_ hno
        by_cases hjk : j = k
        · subst hjk; exact hjun
        · rw [getD_set_ne true hjk] at hun; exact hun
      obtain ⟨o', ho', h⟩ := H.2 j (ready_mono hj e)
      obtain rfl : o' = oj := Option.some.inj (ho'.symm.trans hoj)
      refine ⟨o', hoj, ?_⟩
      rcases h with ⟨u, hu, h⟩ | ⟨hl, h⟩
      · refine .inl ⟨u, hu.of_same (execOp_put o' hsj a oi.dst v h1).symm (wanted_put o' a oi.dst v h1).symm, ih _ _ _ hfree' (ready_mono hr (Ne.symm e)) (hy.of_same (execOp_put oi hsi a o'.dst u h3) (wanted_put oi a o'.dst u h3)) ?_⟩
        rw [Array.setIfInBounds_comm _ _ e, ← Act.put_comm a v _ h2]
        exact h
      · rcases hy with ⟨hg, hy⟩ | ⟨he, _⟩
        · refine .inr ⟨hl, (h.of_same (execOp_put o' hsj a oi.dst v h1).symm (wanted_put o' a oi.dst v h1).symm).mono fun l' u ⟨hg', h⟩ => ⟨hg', ih _ _ _ hfree' (ready_mono hr (Ne.symm e)) (.inl ⟨hg', hy.of_same (execOp_put oi hsi a o'.dst u h3) (wanted_put oi a o'.dst u h3)⟩) ?_⟩⟩
          rw [Array.setIfInBounds_comm _ _ e, ← Act.put_comm a v _ h2]
          exact h
        · obtain ⟨ed, hed, hb, hon⟩ := Region.early_spec he hl hoj
          exact absurd hon (hnot ed hed hb)
/-- The walk in an order of one's own. -/
def wpE (P : Program) (ops : Array Oper) (W : World) (G : List Thing → Prop) (loud : List Nat) (K : List Thing → Act → Prop) : List Nat → List Thing → Act → Prop
  | [], l, a => K l a
  | k :: ks, l, a => ∃ o, ops[k]? = some o ∧ if loud.contains k then LoudG P ops W o l a fun l' u => G l' ∧ wpE P ops W G loud K ks l' (a.put o.dst u)
      else ∃ v, Firm P .any ops W G loud k l o v a ∧ wpE P ops W G loud K ks l (a.put o.dst v)
theorem WholeE.lexO {K : List Thing → Act → Prop} (hsel : Region.noSelect ops = true) :
    ∀ (ks : List Nat) (l : List Thing) (listed : Array Bool) (a : Act), Region.lexO .any ops loud ks listed = true → wpE P ops W G loud K ks l a → WholeE P .any ops W G loud K ks.length l listed a := by
  intro ks
  induction ks with
  | nil => intro l listed a hB h; exact ⟨by simpa [Region.lexO] using hB, h⟩
  | cons k ks ih =>
    intro l listed a hB h
    obtain ⟨o, h0, h⟩ := h
    rw [Region.lexO] at hB
    simp only [Bool.and_eq_true] at hB
    obtain ⟨hB, hB'⟩ := hB
    by_cases hk : loud.contains k = true
    · rw [if_pos hk] at h hB
      have hr : Region.ready .any ops listed = [k] := by simpa using hB
      refine ⟨by rw [hr]; simp, fun i hi => ?_⟩
      rw [hr] at hi
      obtain rfl : i = k := by simpa using hi
      exact ⟨o, h0, .inr ⟨hk, h.mono fun l' u ⟨hg, h⟩ => ⟨hg, ih _ _ _ hB' h⟩⟩⟩
    · rw [if_neg hk] at h hB
      simp only [Bool.and_eq_true] at hB
      obtain ⟨v, hy, h⟩ := h
      exact WholeE.first h0 (Region.noSelect_spec hsel) ks.length l listed a (Region.free_spec h0 hB.2) (by simpa using hB.1) hy (ih _ _ _ hB' h)
theorem wp_region_E {id : Nat} {Q : Exit → Act → World → Prop} {a : Act} {w : World} {l : List Thing} {lo : List Oper} (loud ord : List Nat) (G : List Thing → Prop) (H : Heap W l w) (hm : P.follows .mixedOrders = true) (hB : Region.lexOB lo.toArray loud ord = true)
    (h : wpE P lo.toArray W G loud (fun l' a' => ∀ w', Heap W l' w' → Q .normal a' w') ord l a) : (Code.region id lo.toArray true).wp P Q a w := by
  simp only [Region.lexOB, Bool.and_eq_true, beq_iff_eq] at hB
  refine wp_region_any hm ?_
  have := WholeE.lexO hB.1.1 ord l _ a hB.1.2 h
  have h2 := WholeE.any (Q := Q) (fun l a w H h => h w H) ord.length l _ a _ H.drew this
  rw [hB.2] at h2
  exact h2
theorem wpE_nil {K : List Thing → Act → Prop} {l : List Thing} {a : Act} (h : K l a) : wpE P ops W G loud K [] l a := h
theorem yields_of {G' : List Thing → Prop} {lo : List Oper} {o : Oper} {a : Act} {s : Nat} {v : Value} (hd : o.dst = some s) (hlt : s < a.tmps.size)
    (h1 : ∀ l0, G' l0 → ∀ (w0 : World) (H0 : Heap W l0 w0), wpQuiet P lo.toArray (fun w' => ∃ d, w' = H0.any d) (fun a' => a'.tmps.getD s undef = v) [o] a) : YieldsG P lo.toArray W G' o v a := by
  have inj : ∀ u, (a.put o.dst u).tmps.getD s undef = v → u = v := fun u h => by
    rw [hd] at h
    simp [Act.put, hlt] at h
    exact h
  intro l0 hl0 w0 H0
  have h := h1 l0 hl0 w0 H0
  unfold wpQuiet at h
  by_cases hw : Region.wanted o (yielded lo.toArray a.tmps) = true
  · rw [if_pos hw] at h
    obtain ⟨u, hu, hk⟩ := h
    obtain rfl := inj u hk
    exact .inl ⟨hw, hu⟩
  · rw [if_neg hw] at h
    exact .inr ⟨by simpa using hw, (inj undef h).symm⟩
/-- A quiet one that reads nothing of the things. -/
theorem wpE_step {lo : List Oper} {K : List Thing → Act → Prop} {o : Oper} {k : Nat} {ks : List Nat} {l : List Thing} {a : Act} {s : Nat} {v : Value} (ho : lo[k]? = some o) (hk : loud.contains k = false) (hd : o.dst = some s) (hlt : s < a.tmps.size)
    (h1 : ∀ l0, True → ∀ (w0 : World) (H0 : Heap W l0 w0), wpQuiet P lo.toArray (fun w' => ∃ d, w' = H0.any d) (fun a' => a'.tmps.getD s undef = v) [o] a) (h2 : wpE P lo.toArray W (fun _ => True) loud K ks l (a.put o.dst v)) : wpE P lo.toArray W (fun _ => True) loud K (k :: ks) l a := by
  refine ⟨o, by simpa using ho, ?_⟩
  rw [if_neg (by rw [hk]; exact Bool.false_ne_true)]
  exact ⟨v, .inl ⟨trivial, yields_of hd hlt h1⟩, h2⟩
/-- An early read. -/
theorem wpE_early {lo : List Oper} {K : List Thing → Act → Prop} {o : Oper} {k : Nat} {ks : List Nat} {l : List Thing} {a : Act} {s : Nat} {v : Value} (ho : lo[k]? = some o) (hk : loud.contains k = false) (he : Region.early .any lo.toArray loud k = true) (hd : o.dst = some s) (hlt : s < a.tmps.size)
    (h1 : ∀ (w0 : World) (H0 : Heap W l w0), wpQuiet P lo.toArray (fun w' => ∃ d, w' = H0.any d) (fun a' => a'.tmps.getD s undef = v) [o] a) (h2 : wpE P lo.toArray W G loud K ks l (a.put o.dst v)) : wpE P lo.toArray W G loud K (k :: ks) l a := by
  refine ⟨o, by simpa using ho, ?_⟩
  rw [if_neg (by rw [hk]; exact Bool.false_ne_true)]
  exact ⟨v, .inr ⟨he, yields_of hd hlt fun l0 e w0 H0 => by subst e; exact h1 w0 H0⟩, h2⟩
theorem wpE_loud {lo : List Oper} {K : List Thing → Act → Prop} {o : Oper} {k : Nat} {ks : List Nat} {l : List Thing} {a : Act} (ho : lo[k]? = some o) (hk : loud.contains k = true) (h : LoudG P lo.toArray W o l a fun l' u => G l' ∧ wpE P lo.toArray W G loud K ks l' (a.put o.dst u)) : wpE P lo.toArray W G loud K (k :: ks) l a := by
  refine ⟨o, by simpa using ho, ?_⟩
  rw [if_pos hk]
  exact h
end
section
variable {ops : Array Oper} {W : World} {loud : List Nat} {K : List Thing → Act → Prop} {l : List Thing} {a : Act}
theorem wpE_storeC {lo : List Oper} {ks : List Nat} {k : Nat} {T : TypeId} {dst : Option Tmp} {ty : TypeId} {pos : String} {after : Array Edge} {guard : Option (Nat × Bool)} {x y : Operand} {b off : Nat} {v : Value} (CT : CellTy T) (ho : lo[k]? = some ⟨dst, .store T x y, ty, pos, after, guard⟩) (hk : loud.contains k = true) (hw : Region.wanted ⟨dst, .store T x y, ty, pos, after, guard⟩ (yielded lo.toArray a.tmps) = true) (hx : a.eval x = .pointer (some ⟨b, off, none⟩)) (hy : a.eval y = v) (hc : v.cells = #[v] ∧ v.oneCell' = true)
    {c c1 : Array Value} {t : TypeId} {l' : List Thing} (m : Cel b c t ∈ l) (hn : off < c.size) (hs : c.setIfInBounds off v = c1) (r : Repl l (Cel b c t) (Cel b c1 t) l')
    (h : wpE Tryd.prog lo.toArray W (fun _ => True) loud K ks l' (a.put dst undef)) : wpE Tryd.prog lo.toArray W (fun _ => True) loud K (k :: ks) l a := by
  subst hs
  refine wpE_loud ho hk ⟨hw, fun w H => ⟨l', undef, setBlk w b (c.setIfInBounds off v), .inr ⟨?_, rfl⟩, H.set r, trivial, h⟩⟩
  unfold execOp
  simp only [hx, hy, Sem.run_bind, run_storeC CT hc (H.blk m) hn, Result.andThen_ok]
  rfl
theorem wpE_storeI {lo : List Oper} {ks : List Nat} {k : Nat} {T : TypeId} {dst : Option Tmp} {ty : TypeId} {pos : String} {after : Array Edge} {guard : Option (Nat × Bool)} {x y : Operand} {b off : Nat} {k0 : IntKind} {n0 : Int} (CT : CellTy T) (ho : lo[k]? = some ⟨dst, .store T x y, ty, pos, after, guard⟩) (hk : loud.contains k = true) (hw : Region.wanted ⟨dst, .store T x y, ty, pos, after, guard⟩ (yielded lo.toArray a.tmps) = true) (hx : a.eval x = .pointer (some ⟨b, off, none⟩)) (hy : a.eval y = .int k0 n0)
    {c c1 : Array Value} {t : TypeId} {l' : List Thing} (m : Cel b c t ∈ l) (hn : off < c.size) (hs : c.setIfInBounds off (.int k0 n0) = c1) (r : Repl l (Cel b c t) (Cel b c1 t) l')
    (h : wpE Tryd.prog lo.toArray W (fun _ => True) loud K ks l' (a.put dst undef)) : wpE Tryd.prog lo.toArray W (fun _ => True) loud K (k :: ks) l a := wpE_storeC CT ho hk hw hx hy ⟨rfl, rfl⟩ m hn hs r h
end
end Go.Proofs.YtlinhcbjljcgbaaDoor

/- A region that draws its order, with loud operations of two kinds: soft ones (that leave what an early read reads) and hard ones (each stands behind each early read); in a round too. -/
namespace Go.Proofs.YtlinhcbjljcgbaaDoor
open Go.RowKit
set_option linter.unusedVariables false
section
variable {P : Program} {ops : Array Oper} {md : Region.Mode} {W : World} {G E : List Thing → Prop} {loud hard : List Nat}
def WholeF (P : Program) (md : Region.Mode) (ops : Array Oper) (W : World) (G E : List Thing → Prop) (loud hard : List Nat) (K : List Thing → Act → Prop) : Nat → List Thing → Array Bool → Act → Prop
  | 0, l, listed, a => Region.ready md ops listed = [] ∧ K l a
  | f + 1, l, listed, a => Region.ready md ops listed ≠ [] ∧ ∀ i ∈ Region.ready md ops listed, ∃ o, ops[i]? = some o ∧
      ((∃ v, YieldsG P ops W (fun l' => l' = l) o v a ∧ WholeF P md ops W G E loud hard K f l (listed.setIfInBounds i true) (a.put o.dst v)) ∨
       (loud.contains i = true ∧ LoudG P ops W o l a fun l' u => G l' ∧ (hard.contains i = false → E l → E l') ∧ WholeF P md ops W G E loud hard K f l' (listed.setIfInBounds i true) (a.put o.dst u)))
theorem WholeF.any {K : List Thing → Act → Prop} {Q : Exit → Act → World → Prop} (hK : ∀ l a w, Heap W l w → K l a → Q .normal a w) :
    ∀ (f : Nat) (l : List Thing) (listed : Array Bool) (a : Act) (w : World), Heap W l w → WholeF P md ops W G E loud hard K f l listed a → wpAny P md ops Q f listed a w := by
  intro f
  induction f with
  | zero => intro l listed a w H h; exact ⟨h.1, hK _ _ _ H h.2⟩
  | succ f ih =>
    intro l listed a w H h
    refine ⟨fun h0 => absurd h0 h.1, fun i hi => ?_⟩
    obtain ⟨o, ho, h⟩ := h.2 i hi
    rcases h with ⟨v, hy, h⟩ | ⟨_, h⟩
    · refine wpOp_of_qOp (C := fun w' => ∃ d, w' = H.any d) (H.any_of H) (fun a' w' hw' ha' => ?_) ((hy l rfl w H).qOp ho (K := fun a' => a' = a.put o.dst v) rfl)
      obtain ⟨d, rfl⟩ := hw'
      subst ha'
      exact ih _ _ _ _ (H.any_heap d) h
    · obtain ⟨l', u, w', hr, H', _, _, hk⟩ := h.2 w H
      unfold wpOp
      simp only [ho]
      rw [if_pos h.1]
      refine .inl ?_
      unfold Oper.wp
      rcases hr with hr | ⟨hr, rfl⟩ <;> rw [hr] <;> exact ih _ _ _ _ H' hk
/-- It yields v: whatever the things, or early, as they are. -/
def FirmF (P : Program) (md : Region.Mode) (ops : Array Oper) (W : World) (G E : List Thing → Prop) (loud hard : List Nat) (k : Nat) (l : List Thing) (o : Oper) (v : Value) (a : Act) : Prop :=
  (G l ∧ YieldsG P ops W G o v a) ∨ (Region.early md ops hard k = true ∧ E l ∧ YieldsG P ops W E o v a)
theorem FirmF.now {k : Nat} {l : List Thing} {o : Oper} {v : Value} {a : Act} (h : FirmF P md ops W G E loud hard k l o v a) : YieldsG P ops W (fun l' => l' = l) o v a := by
  rcases h with ⟨hg, h⟩ | ⟨_, hg, h⟩
  · intro l' e w H; subst e; exact h _ hg w H
  · intro l' e w H; subst e; exact h _ hg w H
theorem FirmF.of_same {k : Nat} {l : List Thing} {o : Oper} {v : Value} {a a' : Act} (h : FirmF P md ops W G E loud hard k l o v a) (he : execOp a'.eval o = execOp a.eval o)
    (hw : Region.wanted o (yielded ops a'.tmps) = Region.wanted o (yielded ops a.tmps)) : FirmF P md ops W G E loud hard k l o v a' := by
  rcases h with ⟨hg, h⟩ | ⟨h0, hg, h⟩
  · exact .inl ⟨hg, h.of_same he hw⟩
  · exact .inr ⟨h0, hg, h.of_same he hw⟩
theorem WholeF.first {i : Nat} {oi : Oper} {v : Value} {K : List Thing → Act → Prop} (hi : ops[i]? = some oi) (hsel : ∀ (j : Nat) (o : Oper) cs b, ops[j]? = some o → o.op ≠ .select cs b) :
    ∀ (f : Nat) (l : List Thing) (listed : Array Bool) (a : Act),
      (∀ j oj, ops[j]? = some oj → j ≠ i → listed.getD j true = false → (∀ e ∈ oj.after, Region.binds md e = true → e.on ≠ i) → oi.apart ops oj = true) →
      i ∈ Region.ready md ops listed → FirmF P md ops W G E loud hard i l oi v a → WholeF P md ops W G E loud hard K f l (listed.setIfInBounds i true) (a.put oi.dst v) → WholeF P md ops W G E loud hard K (f + 1) l listed a := by
  intro f
  induction f with
  | zero =>
    intro l listed a _ hr hy H
    refine ⟨fun h => by rw [h] at hr; simp at hr, fun j hj => ?_⟩
    by_cases e : j = i
    · subst e; exact ⟨oi, hi, .inl ⟨v, hy.now, H⟩⟩
    · have := ready_mono hj e
      rw [H.1] at this; cases this
  | succ f ih =>
    intro l listed a hfree hr hy H
    have hun := (mem_ready.1 hr).1
    refine ⟨fun h => by rw [h] at hr; simp at hr, fun j hj => ?_⟩
    by_cases e : j = i
    · subst e; exact ⟨oi, hi, .inl ⟨v, hy.now, H⟩⟩
    · obtain ⟨hjun, oj, hoj, hall⟩ := mem_ready.1 hj
      have hnot : ∀ e ∈ oj.after, Region.binds md e = true → e.on ≠ i := fun e he hb heq => by
        have := hall e he hb
        rw [heq, getD_both hun] at this
        cases this
      obtain ⟨h1, h2, h3⟩ := Oper.apart_spec (hfree j oj hoj e hjun hnot)
      have hsi := fun cs b => hsel i oi cs b hi
      have hsj := fun cs b => hsel j oj cs b hoj
      have hfree' : ∀ k ok, ops[k]? = some ok → k ≠ i → (listed.setIfInBounds j true).getD k true = false →
          (∀ e ∈ ok.after, Region.binds md e = true → e.on ≠ i) → oi.apart ops ok = true := fun k ok hk hki hun hno => by
        refine hfree k ok hk hki ?_ hno
        by_cases hjk : j = k
        · subst hjk; exact hjun
        · rw [getD_set_ne true hjk] at hun; exact hun
      obtain ⟨o', ho', h⟩ := H.2 j (ready_mono hj e)
      obtain rfl : o' = oj := Option.some.inj (ho'.symm.trans hoj)
      refine ⟨o', hoj, ?_⟩
      rcases h with ⟨u, hu, h⟩ | ⟨hl, h⟩
      · refine .inl ⟨u, hu.of_same (execOp_put o' hsj a oi.dst v h1).symm (wanted_put o' a oi.dst v h1).symm, ih _ _ _ hfree' (ready_mono hr (Ne.symm e)) (hy.of_same (execOp_put oi hsi a o'.dst u h3) (wanted_put oi a o'.dst u h3)) ?_⟩
        rw [Array.setIfInBounds_comm _ _ e, ← Act.put_comm a v _ h2]
        exact h
      · refine .inr ⟨hl, (h.of_same (execOp_put o' hsj a oi.dst v h1).symm (wanted_put o' a oi.dst v h1).symm).mono fun l' u ⟨hg', hs', h⟩ => ⟨hg', hs', ih _ _ _ hfree' (ready_mono hr (Ne.symm e)) ?_ ?_⟩⟩
        · rcases hy with ⟨hg, hy⟩ | ⟨he, hE, hy⟩
          · exact .inl ⟨hg', hy.of_same (execOp_put oi hsi a o'.dst u h3) (wanted_put oi a o'.dst u h3)⟩
          · by_cases hh : hard.contains j = true
            · obtain ⟨ed, hed, hb, hon⟩ := Region.early_spec he hh hoj
              exact absurd hon (hnot ed hed hb)
            · exact .inr ⟨he, hs' (by simpa using hh) hE, hy.of_same (execOp_put oi hsi a o'.dst u h3) (wanted_put oi a o'.dst u h3)⟩
        · rw [Array.setIfInBounds_comm _ _ e, ← Act.put_comm a v _ h2]
          exact h
/-- The walk in an order of one's own. -/
def wpF (P : Program) (ops : Array Oper) (W : World) (G E : List Thing → Prop) (loud hard : List Nat) (K : List Thing → Act → Prop) : List Nat → List Thing → Act → Prop
  | [], l, a => K l a
  | k :: ks, l, a => ∃ o, ops[k]? = some o ∧ if loud.contains k then LoudG P ops W o l a fun l' u => G l' ∧ (hard.contains k = false → E l → E l') ∧ wpF P ops W G E loud hard K ks l' (a.put o.dst u)
      else ∃ v, FirmF P .any ops W G E loud hard k l o v a ∧ wpF P ops W G E loud hard K ks l (a.put o.dst v)
theorem WholeF.lexO {K : List Thing → Act → Prop} (hsel : Region.noSelect ops = true) :
    ∀ (ks : List Nat) (l : List Thing) (listed : Array Bool) (a : Act), Region.lexO .any ops loud ks listed = true → wpF P ops W G E loud hard K ks l a → WholeF P .any ops W G E loud hard K ks.length l listed a := by
  intro ks
  induction ks with
  | nil => intro l listed a hB h; exact ⟨by simpa [Region.lexO] using hB, h⟩
  | cons k ks ih =>
    intro l listed a hB h
    obtain ⟨o, h0, h⟩ := h
    rw [Region.lexO] at hB
    simp only [Bool.and_eq_true] at hB
    obtain ⟨hB, hB'⟩ := hB
    by_cases hk : loud.contains k = true
    · rw [if_pos hk] at h hB
      have hr : Region.ready .any ops listed = [k] := by simpa using hB
      refine ⟨by rw [hr]; simp, fun i hi => ?_⟩
      rw [hr] at hi
      obtain rfl : i = k := by simpa using hi
      exact ⟨o, h0, .inr ⟨hk, h.mono fun l' u ⟨hg, hs, h⟩ => ⟨hg, hs, ih _ _ _ hB' h⟩⟩⟩
    · rw [if_neg hk] at h hB
      simp only [Bool.and_eq_true] at hB
      obtain ⟨v, hy, h⟩ := h
      exact WholeF.first h0 (Region.noSelect_spec hsel) ks.length l listed a (Region.free_spec h0 hB.2) (by simpa using hB.1) hy (ih _ _ _ hB' h)
theorem wp_region_F {id : Nat} {Q : Exit → Act → World → Prop} {a : Act} {w : World} {l : List Thing} {lo : List Oper} (loud hard ord : List Nat) (G E : List Thing → Prop) (H : Heap W l w) (hm : P.follows .mixedOrders = true) (hB : Region.lexOB lo.toArray loud ord = true)
    (h : wpF P lo.toArray W G E loud hard (fun l' a' => ∀ w', Heap W l' w' → Q .normal a' w') ord l a) : (Code.region id lo.toArray true).wp P Q a w := by
  simp only [Region.lexOB, Bool.and_eq_true, beq_iff_eq] at hB
  refine wp_region_any hm ?_
  have := WholeF.lexO hB.1.1 ord l _ a hB.1.2 h
  have h2 := WholeF.any (Q := Q) (fun l a w H h => h w H) ord.length l _ a _ H.drew this
  rw [hB.2] at h2
  exact h2
theorem wpF_nil {K : List Thing → Act → Prop} {l : List Thing} {a : Act} (h : K l a) : wpF P ops W G E loud hard K [] l a := h
theorem region_in_F {ro : Option Nat} {n : Nat} {id : Nat} {Q : Exit → Act → World → Prop} {a : Act} {w : World} {l : List Thing} {lo : List Oper} (loud hard ord : List Nat) (G E : List Thing → Prop) (H : Heap W l w) (hm : P.follows .mixedOrders = true) (hd : noDefer lo = true) (hQ : ¬ LetsOut Q) (hB : Region.lexOB lo.toArray loud ord = true)
    (h : wpF P lo.toArray W G E loud hard (fun l' a' => ∀ w', Heap W l' w' → Q .normal a' w') ord l a) : (Code.region id lo.toArray true).wpIn (WR ro) n P Q a w := by
  simp only [Region.lexOB, Bool.and_eq_true, beq_iff_eq] at hB
  refine region_in_any hm hd hQ ?_
  have := WholeF.lexO hB.1.1 ord l _ a hB.1.2 h
  have h2 := WholeF.any (Q := Q) (fun l a w H h => h w H) ord.length l _ a _ H.drew this
  rw [hB.2] at h2
  simpa using h2
/-- A quiet one, whatever the things that stay. -/
theorem wpF_step {lo : List Oper} {K : List Thing → Act → Prop} {o : Oper} {k : Nat} {ks : List Nat} {l : List Thing} {a : Act} {s : Nat} {v : Value} (ho : lo[k]? = some o) (hk : loud.contains k = false) (hd : o.dst = some s) (hlt : s < a.tmps.size) (hG : G l)
    (h1 : ∀ l0, G l0 → ∀ (w0 : World) (H0 : Heap W l0 w0), wpQuiet P lo.toArray (fun w' => ∃ d, w' = H0.any d) (fun a' => a'.tmps.getD s undef = v) [o] a) (h2 : wpF P lo.toArray W G E loud hard K ks l (a.put o.dst v)) : wpF P lo.toArray W G E loud hard K (k :: ks) l a := by
  refine ⟨o, by simpa using ho, ?_⟩
  rw [if_neg (by rw [hk]; exact Bool.false_ne_true)]
  exact ⟨v, .inl ⟨hG, yields_of hd hlt h1⟩, h2⟩
/-- A read of what a hard one changes: ahead of it. -/
theorem wpF_early {lo : List Oper} {K : List Thing → Act → Prop} {o : Oper} {k : Nat} {ks : List Nat} {l : List Thing} {a : Act} {s : Nat} {v : Value} (ho : lo[k]? = some o) (hk : loud.contains k = false) (he : Region.early .any lo.toArray hard k = true) (hd : o.dst = some s) (hlt : s < a.tmps.size) (hE : E l)
    (h1 : ∀ l0, E l0 → ∀ (w0 : World) (H0 : Heap W l0 w0), wpQuiet P lo.toArray (fun w' => ∃ d, w' = H0.any d) (fun a' => a'.tmps.getD s undef = v) [o] a) (h2 : wpF P lo.toArray W G E loud hard K ks l (a.put o.dst v)) : wpF P lo.toArray W G E loud hard K (k :: ks) l a := by
  refine ⟨o, by simpa using ho, ?_⟩
  rw [if_neg (by rw [hk]; exact Bool.false_ne_true)]
  exact ⟨v, .inr ⟨he, hE, yields_of hd hlt h1⟩, h2⟩
theorem wpF_loud {lo : List Oper} {K : List Thing → Act → Prop} {o : Oper} {k : Nat} {ks : List Nat} {l : List Thing} {a : Act} (ho : lo[k]? = some o) (hk : loud.contains k = true) (h : LoudG P lo.toArray W o l a fun l' u => G l' ∧ (hard.contains k = false → E l → E l') ∧ wpF P lo.toArray W G E loud hard K ks l' (a.put o.dst u)) : wpF P lo.toArray W G E loud hard K (k :: ks) l a := by
  refine ⟨o, by simpa using ho, ?_⟩
  rw [if_pos hk]
  exact h
end
section
variable {W : World} {G E : List Thing → Prop} {loud hard : List Nat} {K : List Thing → Act → Prop} {l r : List Thing} {a : Act} {lo : List Oper} {ks : List Nat} {k : Nat} {dst : Option Tmp} {ty : TypeId} {pos : String} {after : Array Edge}
theorem keeps1 {x : Thing} {l : List Thing} (m : x ∈ l) : Keeps [x] l := fun t ht => by rw [List.mem_singleton.1 ht]; exact m
theorem keeps2 {x y : Thing} {l : List Thing} (m : x ∈ l) (m2 : y ∈ l) : Keeps [x, y] l := fun t ht => by
  rcases List.mem_cons.1 ht with rfl | ht
  · exact m
  · rw [List.mem_singleton.1 ht]; exact m2
theorem Heap.push {W w : World} {l r : List Thing} {x : Thing} (H : Heap W (x :: r) w) (h : Pull l x r) : Heap W l w := H.perm h.perm.symm
theorem RowT.form1 {w : World} {e size n : Nat} {v : Value} {xs : List Value} (h : w.ownsRow 0 e size v n xs) : ∃ a c, v = .slice a n c ∧ n ≤ c ∧ c ≤ maxLen := by
  rcases h.2 with ⟨rfl, rfl⟩ | ⟨g, cap, cur, rfl, _, _, hnc, hcm, _⟩
  · exact ⟨none, 0, rfl, Nat.le_refl _, by unfold maxLen; omega⟩
  · exact ⟨_, _, rfl, hnc, hcm⟩
theorem wpF_bsR {x : Operand} {t e : TypeId} {c zs : Array Value} (ho : lo[k]? = some ⟨dst, .buildSlice t 1 #[(0, x)], ty, pos, after, none⟩) (hk : loud.contains k = true) (hx : a.eval x = .agg c)
    (hT : Tryd.prog.underlying t = some (.slice e) ∧ (Tryd.prog.info? e).map (fun i => (i.size, i.zero.map Value.cells)) = some (zs.size, some zs) ∧ 0 < zs.size ∧ zs.size ≤ 65536) (hv : c.size = zs.size)
    (hG : ∀ p, G (Cel p c e :: l)) (hE : ∀ p, E l → E (Cel p c e :: l)) (h : ∀ p, wpF Tryd.prog lo.toArray W G E loud hard K ks (Cel p c e :: l) (a.put dst (.slice (some ⟨p, 0, none⟩) 1 1))) : wpF Tryd.prog lo.toArray W G E loud hard K (k :: ks) l a := by
  refine wpF_loud ho hk ⟨rfl, fun w H => ⟨_, _, _, .inl ?_, H.alloc c e, hG _, fun _ => hE _, h _⟩⟩
  unfold execOp
  simp only [List.map_toArray, List.map_cons, List.map_nil, hx, Sem.run_bind, run_buildSlice1 hT.1 hT.2.1 hT.2.2.1 hT.2.2.2 (.agg c) hv, Result.andThen_ok, Sem.run_pure]
  rfl
theorem wpF_append {t e size bytes : Nat} {z : Value} (T : SlTy Tryd.prog t e size bytes z) {s x : Operand} (ho : lo[k]? = some ⟨dst, .call { callee := .builtin .append, args := #[s, x], argTypes := #[t, t] }, ty, pos, after, none⟩) (hk : loud.contains k = true)
    {v : Value} {b m c n : Nat} {xs news : List Value} {cc : Array Value} {te : TypeId} (hs : a.eval s = v) (hx : a.eval x = .slice (some ⟨b, 0, none⟩) m c) (pl : Pull l (RowT e size v n xs) r) (mb : Cel b cc te ∈ l) (hnews : cc.toList = news)
    (hl : news.length = m * size) (h1 : OneCells news) (h63 : n + m ≤ maxLen) (hbytes : (n + m) * bytes ≤ 140737488355328)
    (hh : hard.contains k = true) (hG : ∀ v', G (RowT e size v' (n + m) (xs ++ news) :: r)) (h : ∀ a' c', wpF Tryd.prog lo.toArray W G E loud hard K ks (RowT e size (.slice a' (n + m) c') (n + m) (xs ++ news) :: r) (a.put dst (.slice a' (n + m) c'))) : wpF Tryd.prog lo.toArray W G E loud hard K (k :: ks) l a := by
  refine wpF_loud ho hk ⟨rfl, fun w H => ?_⟩
  have H2 := H.pull pl
  have hown : w.ownsRow 0 e size v n xs := H2.ok _ List.mem_cons_self
  have hrd := H.celRd mb
  rw [hnews] at hrd
  obtain ⟨i, hi, hz, hsz, hb⟩ := T.inf
  have hnw := hrd.addr
  obtain ⟨v1, w1, hr1, hbl⟩ := run_append_block w T ty 0 v n xs hown ⟨b, 0, none⟩ m c news hl hnw h1 h63 hbytes
  obtain ⟨v', w', hr, h2, h3, h4⟩ := run_append_own (P := Tryd.prog) w 0 t ty e i z size bytes T.und hi hz hsz hb T.zc T.pos v n xs hown ⟨b, 0, none⟩ m c news hl hnw h1 h63 hbytes (Nat.zero_le _)
  rw [hr1] at hr
  simp only [Result.ok.injEq] at hr
  obtain ⟨rfl, rfl⟩ := hr
  obtain ⟨a', c', rfl, _, _⟩ := RowT.form1 h2
  refine ⟨_, _, w1, .inl ?_, H2.head h3 h2 ?_, hG _, fun e => absurd hh (by rw [e]; exact Bool.false_ne_true), h _ _⟩
  · unfold execOp
    simp only [resolve, invoke, builtin, Sem.run_bind, Sem.run_pure, Result.andThen_ok, List.map_toArray, List.map_cons, List.map_nil, hs, hx, hr1]
  · rcases hbl with hbl | hbl
    · exact .inl hbl
    · refine .inr fun j hj => ?_
      have h5 := ownsRow_fp h2 j hj
      have hj' : (Value.slice a' (n + m) c').ownBlock = some j := hj
      rw [hbl] at hj'
      cases hj'
      exact ⟨Nat.le_refl _, h5.2⟩
theorem wpF_storeS {T : TypeId} {guard : Option (Nat × Bool)} {x y : Operand} {b : Nat} {v v0 : Value} {t : TypeId} {l' : List Thing} (CT : CellTy T) (ho : lo[k]? = some ⟨dst, .store T x y, ty, pos, after, guard⟩) (hk : loud.contains k = true) (hw : Region.wanted ⟨dst, .store T x y, ty, pos, after, guard⟩ (yielded lo.toArray a.tmps) = true) (hx : a.eval x = .pointer (some ⟨b, 0, none⟩)) (hy : a.eval y = v) (hc : v.cells = #[v] ∧ v.oneCell' = true)
    (m : Cel b #[v0] t ∈ l) (r : Repl l (Cel b #[v0] t) (Cel b #[v] t) l') (hh : hard.contains k = true) (hG : G l')
    (h : wpF Tryd.prog lo.toArray W G E loud hard K ks l' (a.put dst undef)) : wpF Tryd.prog lo.toArray W G E loud hard K (k :: ks) l a := by
  refine wpF_loud ho hk ⟨hw, fun w H => ⟨l', undef, setBlk w b #[v], .inr ⟨?_, rfl⟩, H.set r, hG, fun e => absurd hh (by rw [e]; exact Bool.false_ne_true), h⟩⟩
  unfold execOp
  simp only [hx, hy, Sem.run_bind, run_storeC CT hc (H.blk m) (show 0 < (#[v0] : Array Value).size by simp), Result.andThen_ok]
  rfl
end
end Go.Proofs.YtlinhcbjljcgbaaDoor

/- frames.frames: the iterator over frames; frames.Read. -/
namespace Go.Proofs.YtlinhcbjljcgbaaDoor
open Go.RowKit
attribute [local go_sem] Oper.semAt_some
set_option linter.unusedSimpArgs false
set_option linter.unusedVariables false
abbrev one (v : Value) : Array Value := #[v]
theorem one_g (v : Value) : (one v)[0]? = some v := rfl
theorem run_varC {T : TypeId} (CT : CellTy T) {w : World} {b off : Nat} {c : Array Value} {t : TypeId} {f : Nat × Nat} {v : Value} (hb : w.heap[b]? = some (.cells c t f)) (hv : c[off]? = some v) :
    (loadVar T ⟨b, off, none⟩).run Tryd.prog w = .ok v w := by
  obtain ⟨d, hu, hd⟩ := CT.und
  have hagg : (isAgg T).run Tryd.prog w = .ok false w := by
    unfold isAgg
    rw [Sem.run_bind, run_underlying hu w]
    cases d <;> simp_all [TypeDesc.isRow]
  have hc : w.cell? ⟨b, off, none⟩ = some v := by rw [cell_of_row w b off c t f hb]; exact hv
  simp [loadVar, Sem.run_bind, hagg, go_sem, hc]
theorem results_cc {W w : World} {l : List Thing} {T1 T2 : TypeId} (C1 : CellTy T1) (C2 : CellTy T2) {fn : Func} {p q : Tmp} (hf : fn.results = #[.cell p T1, .cell q T2]) {tmps : Array Value} {b1 b2 : Nat} (hp : tmps.getD p undef = .pointer (some ⟨b1, 0, none⟩)) (hq : tmps.getD q undef = .pointer (some ⟨b2, 0, none⟩))
    (H : Heap W l w) {v1 v2 : Value} {t1 t2 : TypeId} (m1 : Cel b1 #[v1] t1 ∈ l) (m2 : Cel b2 #[v2] t2 ∈ l) : (results fn tmps).run Tryd.prog w = .ok (.tuple #[v1, v2]) w := by
  have hp' : tmps[p]?.getD undef = .pointer (some ⟨b1, 0, none⟩) := by simpa using hp
  have hq' : tmps[q]?.getD undef = .pointer (some ⟨b2, 0, none⟩) := by simpa using hq
  have e1 := run_varC C1 (H.blk m1) (show (#[v1] : Array Value)[0]? = some v1 from rfl)
  have e2 := run_varC C2 (H.blk m2) (show (#[v2] : Array Value)[0]? = some v2 from rfl)
  simp [results, hf, hp', hq', asAddr, e1, e2]
theorem cell_ls : CellTy 40 := ⟨⟨_, Tryd.underlying40, rfl⟩, by kernel_rfl⟩
theorem cell_int : CellTy 3 := ⟨⟨_, Tryd.underlying3, rfl⟩, by kernel_rfl⟩
section
variable {W w : World} {l : List Thing}
/-- One call of a yield of two. -/
theorem upon_yield2 {P : Program} {Q : Exit → Act → World → Prop} {a a0 a1 : Act} {o : Oper} {K : Act → World → Prop} {v u : Value} {k D : Nat} {p q : Tmp} {fn : FuncId} {assign body : Code}
    {r0 r1 : Loop} (h0 : r0 = loopR .ready none fn a0 #[p, q] assign body D) (h1 : r1 = loopR .busy none fn a0 #[p, q] assign body D) (H : Heap W (ObjT k (.loop r0) :: l) w)
    (hassign : ∀ K : Act → World → Prop, K a1 w → assign.wpIn (WR (some k)) 1 P (Exit.then K (fun _ _ _ => False)) { tmps := (a0.tmps.setIfInBounds p v).setIfInBounds q u, defers := [] } w)
    (go : List Thing → Prop) (leave : Nat → List Thing → Prop)
    (hbody : ∀ w1, Heap W (ObjT k (.loop r1) :: l) w1 → body.wpIn (WR (some k)) 1 P (BodyQ P W k r1 go leave) a1 w1)
    (hgo : ∀ l' w', go l' → Heap W (ObjT k (.loop r0) :: l') w' → K (a.put o.dst (.bool true)) w')
    (hleave : ∀ id l' w', leave id l' → Heap W (ObjT k (.loop (loopR .done (some (.exit id)) fn a0 #[p, q] assign body D)) :: l') w' → K (a.put o.dst (.bool false)) w') :
    o.uponIn (WR none) 2 P a K Q ((Instr.yield k #[v, u]).run P w) := by
  subst h0 h1
  have hrec := H.recO
  have e1 : (Instr.yield k #[v, u]).run P w = .ok (.round k fn ((a0.tmps.setIfInBounds p v).setIfInBounds q u) assign body) w := by
    have hy2 := run_yield (P := P) (args := #[v, u]) hrec rfl
    simp only [loopR] at hy2
    have hz : (#[p, q] : Array Tmp).zip #[v, u] = #[(p, v), (q, u)] := by apply Array.ext'; simp
    rw [hz] at hy2
    simpa using hy2
  rw [e1, Oper.uponIn_round]
  refine ⟨fun h => absurd h (by simp [Fence.wide]), ?_⟩
  refine roundIn_of_wpIn (F := WR none) trivial (hassign _ ?_)
  have e2 := run_beginRound (P := P) hrec rfl
  refine ⟨_, e2, ?_⟩
  refine wpIn_mono (hbody _ H.putO) ?_
  intro e a' w' hB
  cases e with
  | normal =>
    obtain ⟨l', H', hg⟩ := hB
    have e3 := run_endRound (P := P) none H'.recO
    exact ⟨_, _, e3, hgo l' _ hg H'.putO⟩
  | exit id =>
    obtain ⟨l', H', hg⟩ := hB
    have e3 := run_endRound (P := P) (some (.exit id)) H'.recO
    exact ⟨_, _, e3, hleave id l' _ hg H'.putO⟩
  | ret => exact hB.elim
  | goto t => exact hB.elim
  | panic c => exact hB.elim
  | outgrown => exact hB.elim
end
section
variable {ops : Array Oper} {rest : List Oper} {a : Act} {w W : World} {l : List Thing} {Q : Exit → Act → World → Prop}
theorem wpl_allocLs {dst : Option Tmp} {ty : TypeId} {pos : String} {after : Array Edge} {guard : Option (Nat × Bool)} (hw : Region.wanted ⟨dst, .alloc 40, ty, pos, after, guard⟩ (yielded ops a.tmps) = true)
    (H : Heap W l w) (h : ∀ p w', Heap W (Cel p #[.slice none 0 0] 40 :: l) w' → wpList Tryd.prog ops Q rest (a.put dst (.pointer (some ⟨p, 0, none⟩))) w') : wpList Tryd.prog ops Q (⟨dst, .alloc 40, ty, pos, after, guard⟩ :: rest) a w :=
  wpl_allocCH ⟨by kernel_rfl, rfl⟩ hw H h
theorem wpl_allocInt {dst : Option Tmp} {ty : TypeId} {pos : String} {after : Array Edge} {guard : Option (Nat × Bool)} (hw : Region.wanted ⟨dst, .alloc 3, ty, pos, after, guard⟩ (yielded ops a.tmps) = true)
    (H : Heap W l w) (h : ∀ p w', Heap W (Cel p #[.int .i64 0] 3 :: l) w' → wpList Tryd.prog ops Q rest (a.put dst (.pointer (some ⟨p, 0, none⟩))) w') : wpList Tryd.prog ops Q (⟨dst, .alloc 3, ty, pos, after, guard⟩ :: rest) a w :=
  wpl_allocCH ⟨by kernel_rfl, rfl⟩ hw H h
end
section
variable {W w : World} {l : List Thing}
set_option maxRecDepth 100000
set_option maxHeartbeats 2000000
theorem clipL_H (a : Option Addr) (n c : Nat) (hn : n ≤ c) (hm : c ≤ maxLen) : Ans 47 #[.slice a n c] (.slice a n n) := by
  intro w
  unfold maxLen at hm
  have ha : a.map (fun x => x.add 0) = a := by cases a <;> simp [Addr.add]
  go_enter Tryd.func47, Tryd.ntmps47
  go_wp2
  go_ret
  exact ⟨rfl, Ext.refl _⟩
theorem frames_H (a : Option Addr) (n c : Nat) (H : Heap W l w) : Calls Tryd.prog 46 #[.slice a n c] w fun e w' => ∃ bx, e = .returned (.func (.func 53) #[] #[.pointer (some ⟨bx, 0, none⟩)]) ∧ Heap W (Cel bx #[.slice a n c] 22 :: l) w' := by
  go_enter Tryd.func46, Tryd.ntmps46
  go_wp2_with (first
    | go_skip
    | ((with_reducible show wpList _ _ _ (_ :: _) _ _); (with_reducible apply wpl_boxCH); (· rfl); (· rfl); (· rfl); (· exact H); (clear H; intro b1 _ H); (simp only [Act.put, List.setIfInBounds_toArray, List.set_cons_zero, List.set_cons_succ])))
  go_ret
  exact ⟨b1, rfl, H⟩
end
end Go.Proofs.YtlinhcbjljcgbaaDoor
