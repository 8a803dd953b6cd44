/- Rows of cells by their numbers; kinds of cells; a list that is answered. -/
import Derived.Test.YtacglcpjbepfnaaHeapOwn
namespace Go.Proofs.Ytacglcpjbepfnaa
open Go.RowKit
theorem cell_i64 : CellTy 2 := ⟨⟨_, Try.underlying2, rfl⟩, by kernel_rfl⟩
theorem cell_bool : CellTy 4 := ⟨⟨_, Try.underlying4, rfl⟩, by kernel_rfl⟩
theorem cell_party : CellTy 23 := ⟨⟨_, Try.underlying23, rfl⟩, by kernel_rfl⟩
/-- A row of n cells. -/
def tab (n : Nat) (f : Nat → Value) : Array Value := Array.ofFn (n := n) fun i => f i.val
theorem tab_size (n : Nat) (f : Nat → Value) : (tab n f).size = n := by simp [tab]
theorem tab_get {n i : Nat} (f : Nat → Value) (h : i < n) : (tab n f)[i]? = some (f i) := by simp [tab, h]
theorem tab_set {n i : Nat} (f : Nat → Value) (v : Value) (h : i < n) : (tab n f).setIfInBounds i v = tab n fun j => if j = i then v else f j := by
  apply Array.ext_getElem?
  intro j
  rw [Array.getElem?_setIfInBounds]
  by_cases hj : j < n
  · rw [tab_get _ hj]
    by_cases e : i = j
    · subst e; rw [if_pos rfl, if_pos (by rw [tab_size]; exact h), tab_get _ hj]; simp
    · rw [if_neg e, tab_get _ hj, if_neg (fun h => e h.symm)]
  · have h1 : ∀ g : Nat → Value, (tab n g)[j]? = none := fun g => by simp [tab, hj]
    rw [h1, h1]
    split
    · rw [if_neg (by rw [tab_size]; omega)]
    · rfl
theorem tab_ext {n m lo : Nat} (f : Nat → Value) (h : lo + m ≤ n) : (tab n f).extract lo (lo + m) = tab m fun j => f (lo + j) := by
  apply Array.ext_getElem?
  intro j
  rw [Array.getElem?_extract]
  by_cases hj : j < m
  · rw [tab_get _ hj, if_pos (by rw [tab_size]; omega), tab_get _ (by omega)]
  · rw [if_neg (by omega)]
    simp [tab, hj]
theorem tab_congr {n : Nat} {f g : Nat → Value} (h : ∀ i, i < n → f i = g i) : tab n f = tab n g := by
  apply Array.ext_getElem?
  intro j
  by_cases hj : j < n
  · rw [tab_get _ hj, tab_get _ hj, h j hj]
  · simp [tab, hj]
theorem tab_cells {n : Nat} {f : Nat → Value} (h : ∀ i, i < n → (f i).oneCell' = true) : Cells n (tab n f) := by
  refine ⟨tab_size _ _, ?_⟩
  rw [Array.all_eq_true_iff_forall_mem]
  intro x hx
  obtain ⟨i, hi, rfl⟩ := Array.mem_iff_getElem.1 hx
  rw [tab_size] at hi
  have := tab_get f hi
  rw [Array.getElem?_eq_getElem (by rw [tab_size]; exact hi)] at this
  rw [Option.some.inj this]
  exact h i hi
/-- A list that is answered: nil, if it is empty; else it lies in a block of its own. -/
def ListPost (W : World) (l : List Thing) (e size : Nat) (xs : List Value) (n : Nat) (r : Ending) (w' : World) : Prop :=
  (n = 0 ∧ r = .returned (.slice none 0 0) ∧ Heap W l w') ∨ (0 < n ∧ ∃ g c, r = .returned (.slice (some ⟨g, 0, none⟩) n n) ∧ n ≤ c ∧ Heap W (Sl g e size n c xs :: l) w')
theorem ListPost.nil {W : World} {l : List Thing} {e size n : Nat} {xs : List Value} {w' : World} (h : n = 0) (H : Heap W l w') : ListPost W l e size xs n (.returned (.slice none 0 0)) w' := .inl ⟨h, rfl, H⟩
theorem ListPost.some {W : World} {l : List Thing} {e size n : Nat} {xs : List Value} {w' : World} (h : 0 < n) (g c : Nat) (hc : n ≤ c) (H : Heap W (Sl g e size n c xs :: l) w') : ListPost W l e size xs n (.returned (.slice (some ⟨g, 0, none⟩) n n)) w' := .inr ⟨h, g, c, rfl, hc, H⟩
end Go.Proofs.Ytacglcpjbepfnaa
