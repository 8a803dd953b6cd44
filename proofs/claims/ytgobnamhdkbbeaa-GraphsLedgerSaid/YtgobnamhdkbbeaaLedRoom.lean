/- What a push leaves as it was: all other rooms. -/
import Derived.Test.YtgobnamhdkbbeaaLedBack
namespace Go.Proofs.Ytgobnamhdkbbeaa
section
variable {S : Lgr}
theorem push_room_other {f t c n x y d : Int} (hne : ¬ (d = c ∧ (x = f ∧ y = t ∨ x = t ∧ y = f))) : roomOf (pushS S f t c n) x y d = roomOf S x y d := by
  unfold pushS
  split
  · unfold roomOf
    simp only [debOf_add, limOf_add, isLine_add]
    have a1 : ¬ (x = f ∧ y = t ∧ d = c) := fun h => hne ⟨h.2.2, .inl ⟨h.1, h.2.1⟩⟩
    have a2 : ¬ (x = t ∧ y = f ∧ d = c) := fun h => hne ⟨h.2.2, .inr ⟨h.1, h.2.1⟩⟩
    have a3 : ¬ (y = f ∧ x = t ∧ d = c) := fun h => hne ⟨h.2.2, .inr ⟨h.2.1, h.1⟩⟩
    have a4 : ¬ (y = t ∧ x = f ∧ d = c) := fun h => hne ⟨h.2.2, .inl ⟨h.2.1, h.1⟩⟩
    simp only [a1, a2, a3, a4, and_false, if_false, Int.add_zero]
  · rfl
end
end Go.Proofs.Ytgobnamhdkbbeaa
