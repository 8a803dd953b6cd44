/- A quiet read of one cell out of a readable list. -/
import Derived.Test.YtacglcpjbepfnaaQCell
namespace Go.Proofs.Ytacglcpjbepfnaa
open Go.RowKit
section
variable {ops : Array Oper} {rest : List Oper} {a : Act} {w W : World} {l : List Thing}
theorem wpQ_rdC {T : TypeId} {dst : Option Tmp} {ty : TypeId} {pos : String} {after : Array Edge} {guard : Option (Nat × Bool)} {x : Operand} {b off : Nat} {K : Go.Act → Prop} {a : Go.Act} {H : Heap W l w} (CT : CellTy T) (hw : Region.wanted ⟨dst, .load T x, ty, pos, after, guard⟩ (yielded ops a.tmps) = true) (hx : a.eval x = .pointer (some ⟨b, off, none⟩))
    {o k : Nat} {xs : List Value} {v : Value} (R : ∀ w', Heap W l w' → Rd w' (some ⟨b, o, none⟩) xs) (hk : off = o + k) (hv : xs[k]? = some v)
    (h : wpQuiet Try.prog ops (fun w' => ∃ d, w' = H.any d) K rest (a.put dst v)) : wpQuiet Try.prog ops (fun w' => ∃ d, w' = H.any d) K (⟨dst, .load T x, ty, pos, after, guard⟩ :: rest) a := by
  subst hk
  refine wpQ_loadCell CT hw hx (fun w' H' => ?_) h
  have h1 : k < xs.length := (List.getElem?_eq_some_iff.1 hv).1
  have h2 := (R w' H').get (i := k) h1
  rw [h2]
  exact (List.getElem?_eq_getElem h1).symm.trans hv
end
end Go.Proofs.Ytacglcpjbepfnaa
