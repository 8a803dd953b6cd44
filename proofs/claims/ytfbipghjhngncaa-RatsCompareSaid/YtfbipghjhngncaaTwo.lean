/- A block of two cells: what is read of it, and what it is behind a store. -/
import Derived.Test.YtfbipghjhngncaaSum
namespace Go.Proofs.Ytfbipghjhngncaa
open Go.RowKit

def Two (w : World) (b : Nat) (t : TypeId) (p q : Value) : Prop := w.heap[b]? = some (.cells #[p, q] t (0, 0))
theorem Two.new (w : World) (t : TypeId) (p q : Value) : Two (w.alloc (.cells #[p, q] t)) w.heap.size t p q := heap_alloc_new w _
theorem Two.lt {w : World} {b : Nat} {t : TypeId} {p q : Value} (h : Two w b t p q) : b < w.heap.size := (Array.getElem?_eq_some_iff.1 h).1
theorem Two.below {w w' : World} {B b : Nat} {t : TypeId} {p q : Value} (h : Two w b t p q) (hb : Below B w w') (hB : b < B) : Two w' b t p q := by
  unfold Two; rw [hb.block b hB]; exact h
theorem Two.on {w w' : World} {b : Nat} {t : TypeId} {p q : Value} (h : Two w b t p q) (hb : Below w.heap.size w w') : Two w' b t p q := h.below hb h.lt
theorem Two.alloc {w : World} {b : Nat} {t : TypeId} {p q : Value} (h : Two w b t p q) (o : Obj) : Two (w.alloc o) b t p q := h.on ((Below.refl _ w).alloc (Nat.le_refl _) _)
theorem Two.c0 {w : World} {b : Nat} {t : TypeId} {p q : Value} (h : Two w b t p q) : w.cell? ⟨b, 0, none⟩ = some p := cell_of h 0 p rfl
theorem Two.c1 {w : World} {b : Nat} {t : TypeId} {p q : Value} (h : Two w b t p q) : w.cell? ⟨b, 1, none⟩ = some q := cell_of h 1 q rfl
theorem Two.f0 {w : World} {b : Nat} {t : TypeId} {p q : Value} (h : Two w b t p q) : w.frozen? ⟨b, 0, none⟩ = false := frozen_of_row w b 0 _ _ h
theorem Two.f1 {w : World} {b : Nat} {t : TypeId} {p q : Value} (h : Two w b t p q) : w.frozen? ⟨b, 1, none⟩ = false := frozen_of_row w b 1 _ _ h
theorem Two.set0 {w : World} {b : Nat} {t : TypeId} {p q : Value} (h : Two w b t p q) (x : Value) : Two (w.setCell ⟨b, 0, none⟩ x) b t x q := Joins.block_setCell (i := 0) h x
theorem Two.set1 {w : World} {b : Nat} {t : TypeId} {p q : Value} (h : Two w b t p q) (x : Value) : Two (w.setCell ⟨b, 1, none⟩ x) b t p x := Joins.block_setCell (i := 1) h x
/-- What is held of a block of two cells while a region runs in whatever order. -/
def HeldTwo (W : World) (b : Nat) (t : TypeId) (p q : Value) (w : World) : Prop := w.cell? ⟨b, 0, none⟩ = some p ∧ w.cell? ⟨b, 1, none⟩ = some q ∧ Two w b t p q ∧ Below W.heap.size W w
theorem HeldTwo.mk {W w : World} {b : Nat} {t : TypeId} {p q : Value} (h : Two w b t p q) (hb : Below W.heap.size W w) : w.cell? ⟨b, 0, none⟩ = some p ∧ w.cell? ⟨b, 1, none⟩ = some q ∧ Two w b t p q ∧ Below W.heap.size W w := ⟨h.c0, h.c1, h, hb⟩
theorem HeldTwo.next {W w w' : World} {b : Nat} {t : TypeId} {p q : Value} (h : w.cell? ⟨b, 0, none⟩ = some p ∧ w.cell? ⟨b, 1, none⟩ = some q ∧ Two w b t p q ∧ Below W.heap.size W w) (hb : Below w.heap.size w w') : w'.cell? ⟨b, 0, none⟩ = some p ∧ w'.cell? ⟨b, 1, none⟩ = some q ∧ Two w' b t p q ∧ Below W.heap.size W w' :=
  HeldTwo.mk (h.2.2.1.on hb) (h.2.2.2.trans (hb.mono h.2.2.2.size))
theorem HeldTwo.first (w : World) (t : TypeId) (p q : Value) : (w.alloc (.cells #[p, q] t)).drew.cell? ⟨w.heap.size, 0, none⟩ = some p ∧ (w.alloc (.cells #[p, q] t)).drew.cell? ⟨w.heap.size, 1, none⟩ = some q ∧ Two (w.alloc (.cells #[p, q] t)).drew w.heap.size t p q ∧ Below w.heap.size w (w.alloc (.cells #[p, q] t)).drew :=
  HeldTwo.mk ((Two.new w t p q).on (Below.refl _ _).drew) (((Below.refl _ w).alloc (Nat.le_refl _) _).drew)
end Go.Proofs.Ytfbipghjhngncaa
