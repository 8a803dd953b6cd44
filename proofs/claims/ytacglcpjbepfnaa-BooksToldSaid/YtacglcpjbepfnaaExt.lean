/- Worlds that grow: 'w.ext d' is a world behind w in which nothing of w has changed; calls and regions that only make memory leave such a world, and cells are read through it. -/
import Derived.Test.YtacglcpjbepfnaaBase
import Derived.Test.YtacglcpjbepfnaaProg
import Derived.Deep.QuietTactic
import Derived.BigQuiet
namespace Go.Proofs.Ytacglcpjbepfnaa
open Go.RowKit

open Classical in
/-- w, grown to d where d is w grown; else w itself. -/
noncomputable def World.ext (w d : World) : World := if Below w.heap.size w d then d else w
theorem ext_below (w d : World) : Below w.heap.size w (World.ext w d) := by
  unfold World.ext
  split
  · assumption
  · exact Below.refl _ _
theorem ext_of {w w' : World} (h : Below w.heap.size w w') : ∃ d, w' = World.ext w d := ⟨w', by unfold World.ext; rw [if_pos h]⟩
theorem ext_size (w d : World) : w.heap.size ≤ (World.ext w d).heap.size := (ext_below w d).size
theorem ext_block (w d : World) {k : Nat} (h : k < w.heap.size) : (World.ext w d).heap[k]? = w.heap[k]? := (ext_below w d).block k h
/-- How many blocks were made on the way from w. -/
noncomputable def World.extN (w d : World) : Nat := (World.ext w d).heap.size - w.heap.size
@[go_sem high] theorem size_ext (w d : World) : (World.ext w d).heap.size = w.heap.size + World.extN w d := by
  have := ext_size w d; unfold World.extN; omega
noncomputable def World.extCell (w d : World) (a : Addr) : Option Value := (World.ext w d).cell? a
noncomputable def World.extFrozen (w d : World) (a : Addr) : Bool := (World.ext w d).frozen? a
@[go_sem high] theorem ext_cell (w d : World) (n i : Nat) (s : Option Nat) : (World.ext w d).cell? ⟨n, i, s⟩ = if n < w.heap.size then w.cell? ⟨n, i, s⟩ else World.extCell w d ⟨n, i, s⟩ := by
  split
  · rename_i h; exact (ext_below w d).cell (p := ⟨n, i, s⟩) h
  · rfl
@[go_sem high] theorem ext_frozen (w d : World) (n i : Nat) (s : Option Nat) : (World.ext w d).frozen? ⟨n, i, s⟩ = if n < w.heap.size then w.frozen? ⟨n, i, s⟩ else World.extFrozen w d ⟨n, i, s⟩ := by
  split
  · rename_i h; exact (ext_below w d).frozen (p := ⟨n, i, s⟩) h
  · rfl
@[go_sem high] theorem alloc_cell (w : World) (c : Array Value) (t : TypeId) (f : Nat × Nat) (n i : Nat) : (w.alloc (.cells c t f)).cell? ⟨n, i, none⟩ = if n = w.heap.size then c[i]? else w.cell? ⟨n, i, none⟩ := by
  split
  · rename_i h
    subst h
    simp only [World.cell?, heap_alloc_new]
    simp
  · rename_i h; exact World.cell?_alloc_old _ _ _ h
@[go_sem high] theorem alloc_frozen (w : World) (c : Array Value) (t : TypeId) (n i : Nat) : (w.alloc (.cells c t)).frozen? ⟨n, i, none⟩ = if n = w.heap.size then false else w.frozen? ⟨n, i, none⟩ := by
  split
  · rename_i h
    subst h
    exact frozen_of_row _ _ _ _ _ (heap_alloc_new w _)
  · rename_i h; exact World.frozen?_alloc_old _ _ _ h

/-- Nothing of w has changed in w'. -/
def Ext (w w' : World) : Prop := Below w.heap.size w w'
theorem Ext.refl (w : World) : Ext w w := Below.refl _ _
theorem Ext.alloc {w w' : World} (h : Ext w w') (o : Obj) : Ext w (w'.alloc o) := Below.alloc h (Below.size h) o
theorem Ext.drew {w w' : World} (h : Ext w w') : Ext w w'.drew := Below.drew h
theorem Ext.drewN {w w' : World} (h : Ext w w') (n : Nat) : Ext w (w'.drewN n) := ⟨h.os, h.tape, h.output, h.size, h.block⟩
theorem Ext.trans {a b c : World} (h : Ext a b) (k : Ext b c) : Ext a c := Below.trans h (Below.mono k (Below.size h))
theorem Ext.ext {w w' : World} (h : Ext w w') (d : World) : Ext w (World.ext w' d) := h.trans (ext_below w' d)
theorem Ext.setCell {w w' : World} (h : Ext w w') {p : Addr} (hp : w.heap.size ≤ p.block) (u : Value) : Ext w (w'.setCell p u) := Below.setCell h hp u
theorem Ext.out {w w' : World} (h : Ext w w') : ∃ d, w' = World.ext w d := ext_of h
theorem Ext.rd {w w' : World} {a : Option Addr} {xs : List Value} (h : Ext w w') (k : Rd w a xs) : Rd w' a xs := k.below h

/-- A callee that only makes memory, met in the midst of a region. -/
theorem Calls.ext_of {P : Program} {f : FuncId} {args : Array Value} {W d : World} {v : Value}
    (h : Calls P f args (World.ext W d) fun e w' => e = .returned v ∧ Below (World.ext W d).heap.size (World.ext W d) w') : Calls P f args (World.ext W d) fun e w'' => e = .returned v ∧ ∃ m, w'' = World.ext W m :=
  h.mono fun _ _ ⟨he, hb⟩ => ⟨he, _root_.Go.Proofs.Ytacglcpjbepfnaa.ext_of (((Ext.refl W).ext d).trans hb)⟩
theorem Calls.ext_same {P : Program} {f : FuncId} {args : Array Value} {W d : World} {v : Value}
    (h : Calls P f args (World.ext W d) fun e w' => e = .returned v ∧ w' = World.ext W d) : Calls P f args (World.ext W d) fun e w'' => e = .returned v ∧ ∃ m, w'' = World.ext W m :=
  h.mono fun _ _ ⟨he, hb⟩ => ⟨he, d, hb⟩
/-- A region that draws its order, walked once in the order of the text, in whatever world behind W. -/
theorem wp_region_ext {P : Program} {id : Nat} {Q : Exit → Act → World → Prop} {a : Act} {W : World} {l : List Oper} (hm : P.follows .mixedOrders = true) (hB : Region.lexB .any l.toArray = true)
    (h : wpQuiet P l.toArray (fun w' => ∃ d, w' = World.ext W d) (fun a' => ∀ w', (∃ d, w' = World.ext W d) → Q .normal a' w') l a) : (Code.region id l.toArray true).wp P Q a W :=
  wp_region_quiet (C := fun w' => ∃ d, w' = World.ext W d) hm hB (ext_of (Below.refl _ _).drew) (by simpa using h)

/-- Called with these arguments, in whatever world, it answers v and only makes memory. -/
def Ans (f : FuncId) (args : Array Value) (v : Value) : Prop := ∀ w, Calls Try.prog f args w fun e w' => e = .returned v ∧ Below w.heap.size w w'
theorem Ans.same {f : FuncId} {args : Array Value} {v : Value} (h : ∀ w, Calls Try.prog f args w fun e w' => e = .returned v ∧ w' = w) : Ans f args v := fun w => (h w).mono fun _ _ ⟨he, hw⟩ => ⟨he, hw ▸ Below.refl _ _⟩
theorem Ans.same' {f : FuncId} {args : Array Value} {v : Value} (h : ∀ w, Calls Try.prog f args w fun e w' => e = .returned v ∧ w = w') : Ans f args v := fun w => (h w).mono fun _ _ ⟨he, hw⟩ => ⟨he, hw ▸ Below.refl _ _⟩
theorem Ans.to {f : FuncId} {args : Array Value} {v v' : Value} (h : Ans f args v) (e : v = v') : Ans f args v' := e ▸ h
theorem Ans.call {f : FuncId} {args : Array Value} {v : Value} {w : World} {R : Ending → World → Prop} (h : Ans f args v) (k : ∀ d, R (.returned v) (World.ext w d)) : Calls Try.prog f args w R :=
  (h w).mono fun e w' ⟨he, hb⟩ => by obtain ⟨d, rfl⟩ := ext_of hb; rw [he]; exact k d
theorem Ans.quiet {f : FuncId} {args : Array Value} {v : Value} {W d : World} (h : Ans f args v) : Calls Try.prog f args (World.ext W d) fun e w'' => e = .returned v ∧ ∃ m, w'' = World.ext W m := Calls.ext_of (h _)
end Go.Proofs.Ytacglcpjbepfnaa
