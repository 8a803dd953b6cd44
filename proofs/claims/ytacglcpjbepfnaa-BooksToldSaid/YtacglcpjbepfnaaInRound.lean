/- What is proved of a region outside serves in a round of a range over a function. -/
import Derived.Test.YtacglcpjbepfnaaHeapCalls
import Derived.Test.YtacglcpjbepfnaaHeapRegion
import Derived.RangeFuncIn
import Derived.RangeFuncRecord
import Derived.OrdersIn
import Derived.TacticsIn
namespace Go.Proofs.Ytacglcpjbepfnaa
open Go.RowKit
set_option linter.unusedVariables false
/-- The wide fence, in a round or not. -/
abbrev WR (ro : Option Nat) : Fence := { Fence.wide with round := ro }
def noDefer (l : List Oper) : Bool := l.all fun o => match o.op with
  | .defer _ => false
  | _ => true
section
variable {ro : Option Nat} {n : Nat} {P : Program} {ops : Array Oper} {Q : Exit → Act → World → Prop}
theorem noDefer_at {l : List Oper} (h : noDefer l = true) {o : Oper} (ho : o ∈ l) : ∀ c, o.op ≠ .defer c := by
  intro c e
  unfold noDefer at h
  have := List.all_eq_true.1 h o ho
  rw [e] at this
  cases this
theorem calls_in {f : FuncId} {args : Array Value} {w : World} {R : Ending → World → Prop} (h : Calls P f args w R) : CallsIn (WR ro) n P f args w R := (callsIn_wide (n := n)).2 h
theorem rows_in {row : String} {args : Array Value} {w : World} {R : Value → World → Prop} (h : Rows P row args w R) : RowsIn (WR ro) n P row args w R := fun c cs _ => by
  obtain ⟨v, w', r, s⟩ := h c cs
  exact ⟨v, w', r, stepsIn_wide.2 s⟩
theorem oper_in {o : Oper} {a : Act} {w : World} {K : Act → World → Prop} (hd : ∀ c, o.op ≠ .defer c) (h : o.wp P a w K Q) : o.wpIn (WR ro) n P a w K Q := by
  refine ⟨fun _ _ => trivial, ?_⟩
  rw [Oper.semAt_eq _ _ _ hd]
  unfold Oper.wp at h
  generalize (execOp a.eval o).run P w = r at *
  cases r with
  | ok x w' =>
    cases x <;> simp only [Oper.upon, Oper.uponIn] at h ⊢ <;>
      first
        | exact h
        | exact ⟨fun h0 => absurd h0 (by simp [Fence.wide]), calls_in (Calls.mono h fun e w'' he => by cases e <;> exact he)⟩
        | exact ⟨fun h0 => absurd h0 (by simp [Fence.wide]), rows_in h⟩
        | exact h.elim
  | halt x w' => cases x <;> simp only [Oper.upon, Oper.uponIn] at h ⊢ <;> first | exact h | exact h.elim
theorem wpList_in (hQ : ¬ LetsOut Q) : ∀ (l : List Oper) (a : Act) (w : World), noDefer l = true → wpList P ops Q l a w → wpListIn (WR ro) n P ops Q l a w
  | [], _, _, _, h => h
  | o :: l, a, w, hd, h => by
    have hd1 := noDefer_at hd (List.mem_cons_self (a := o) (l := l))
    have hd2 : noDefer l = true := by unfold noDefer at hd ⊢; rw [List.all_cons, Bool.and_eq_true] at hd; exact hd.2
    unfold wpList at h
    unfold wpListIn
    split
    · rename_i hw
      rw [if_pos hw] at h
      rcases h with h | h
      · exact Oper.wpIn_mono (fun a w h => wpList_in hQ l a w hd2 h) (oper_in hd1 h)
      · exact absurd h.2 hQ
    · rename_i hw
      rw [if_neg hw] at h
      exact ⟨fun _ _ => trivial, wpList_in hQ l _ w hd2 h⟩
theorem wpOp_in {i : Nat} {a : Act} {w : World} {K K' : Act → World → Prop} (hQ : ¬ LetsOut Q) (hd : noDefer ops.toList = true) (hK : ∀ a w, K a w → K' a w) (h : wpOp P ops Q i K a w) : wpOpIn (WR ro) n P ops Q i K' a w := by
  unfold wpOp at h
  unfold wpOpIn
  cases ho : ops[i]? with
  | none =>
    simp only [ho] at h ⊢
    exact hK _ _ h
  | some o =>
    simp only [ho] at h ⊢
    split
    · rename_i hw
      rw [if_pos hw] at h
      rcases h with h | h
      · refine Oper.wpIn_mono hK (oper_in (noDefer_at hd ?_) h)
        have := Array.getElem?_eq_some_iff.1 ho
        obtain ⟨hi, rfl⟩ := this
        simp
      · exact absurd h.2 hQ
    · rename_i hw
      rw [if_neg hw] at h
      exact ⟨fun _ _ => trivial, hK _ _ h⟩
theorem wpAny_in {md : Region.Mode} (hQ : ¬ LetsOut Q) (hd : noDefer ops.toList = true) : ∀ (f : Nat) (listed : Array Bool) (a : Act) (w : World), wpAny P md ops Q f listed a w → wpAnyIn (WR ro) n P md ops Q f listed a w
  | 0, _, _, _, h => h
  | f + 1, listed, a, w, h => ⟨h.1, fun i hi => wpOp_in hQ hd (fun a w h => wpAny_in hQ hd f _ a w h) (h.2 i hi)⟩
theorem region_in {id : Nat} {lo : List Oper} {a : Act} {w : World} (hd : noDefer lo = true) (hQ : ¬ LetsOut Q) (h : wpList P lo.toArray Q lo a w) : (Code.region id lo.toArray false).wpIn (WR ro) n P Q a w :=
  wpIn_region_lit (wpList_in hQ lo a w hd h)
theorem region_in_any {id : Nat} {lo : List Oper} {a : Act} {w : World} (hm : P.follows .mixedOrders = true) (hd : noDefer lo = true) (hQ : ¬ LetsOut Q) (h : wpAny P .any lo.toArray Q lo.length (Array.replicate lo.length false) a { w with drawn := w.drawn + 1 }) : (Code.region id lo.toArray true).wpIn (WR ro) n P Q a w :=
  wpIn_region_any hm (by simpa using wpAny_in hQ (by simpa using hd) _ _ _ _ h)
theorem region_in_K {W : World} {id : Nat} {a : Act} {w : World} {l : List Thing} {lo : List Oper} (loud ord : List Nat) (base : List Thing) (H : Heap W l w) (hG : Keeps base l) (hm : P.follows .mixedOrders = true) (hd : noDefer lo = true) (hQ : ¬ LetsOut Q) (hB : Region.lexOB lo.toArray loud ord = true)
    (h : wpK P lo.toArray W loud (fun l' a' => ∀ w', Heap W l' w' → Q .normal a' w') ord base l a) : (Code.region id lo.toArray true).wpIn (WR ro) n P Q a w := by
  simp only [Region.lexOB, Bool.and_eq_true, beq_iff_eq] at hB
  refine region_in_any hm hd hQ ?_
  have := WholeK.lexO (md := .any) hB.1.1 ord base l _ a hB.1.2 h
  have h2 := WholeK.any (Q := Q) (fun l a w H h => h w H) ord.length base l _ a _ hG H.drew this
  rw [hB.2] at h2
  simpa using h2
theorem region_in_O {W : World} {id : Nat} {a : Act} {w : World} {l : List Thing} {lo : List Oper} (loud ord : List Nat) (G : List Thing → Prop) (H : Heap W l w) (hG : G l) (hm : P.follows .mixedOrders = true) (hd : noDefer lo = true) (hQ : ¬ LetsOut Q) (hB : Region.lexOB lo.toArray loud ord = true)
    (h : wpO P lo.toArray W G loud (fun l' a' => ∀ w', Heap W l' w' → Q .normal a' w') ord l a) : (Code.region id lo.toArray true).wpIn (WR ro) n P Q a w := by
  simp only [Region.lexOB, Bool.and_eq_true, beq_iff_eq] at hB
  refine region_in_any hm hd hQ ?_
  have := WholeG.lexO (md := .any) hB.1.1 ord l _ a hB.1.2 h
  have h2 := WholeG.any (Q := Q) (fun l a w H h => h w H) ord.length l _ a _ hG H.drew this
  rw [hB.2] at h2
  simpa using h2
end
end Go.Proofs.Ytacglcpjbepfnaa
