/- A row of structs put in order, as a thing. -/
import Derived.Test.YtacglcpjbepfnaaLedSort
import Derived.Test.YtacglcpjbepfnaaHeapOwn
namespace Go.Proofs.Ytacglcpjbepfnaa
open Go.RowKit Go.Sort
set_option linter.unusedVariables false
set_option linter.unusedSimpArgs false
section
variable {W w : World} {l : List Thing} {g n c : Nat} {e : TypeId} {cur F : Array Value}
theorem putRow_at (h : w.heap[g]? = some (.cells cur e (0, 0))) (F : Array Value) : (putRow id w g 0 F).heap[g]? = some (.cells (putCells id 0 F cur) e (0, 0)) := by
  simp [putRow, mapBlock, Array.getElem?_modify, h, onCells]
theorem putRow_else {k : Nat} (h : k ≠ g) (F : Array Value) : (putRow id w g 0 F).heap[k]? = w.heap[k]? := by
  simp [putRow, mapBlock, Array.getElem?_modify, Ne.symm h]
theorem putCells_take (hF : F.size ≤ cur.size) : (putCells id 0 F cur).toList.take F.size = F.toList := by
  apply List.ext_getElem?
  intro i
  rw [List.getElem?_take]
  by_cases hi : i < F.size
  · rw [if_pos hi]
    have h1 : i < cur.size := by omega
    simp [putCells, h1, hi]
  · rw [if_neg hi]
    simp [hi]
theorem sort_grown {α : Type} [Inhabited α] (enc : α → List Value) (k m : Nat) (d' : Array α) (os : Array Obj) : w.grownBy (sortWorldK enc k w g 0 m d' os) (some g) := by
  refine ⟨rfl, rfl, rfl, size_sortWorldK_c enc k w g 0 m d' os, fun j hj hne => ?_⟩
  have hne : j ≠ g := fun h => hne (by rw [h])
  unfold sortWorldK
  rw [heap_grow_old _ _ (by simpa [putRowK, putRow, mapBlock, Sort.ahead] using hj)]
  unfold putRowK
  rw [putRow_else hne]
  rfl
theorem sort_holds {L : List Lin} (h : (Sl g e 5 n c (linL L)).ok w) (hn : L.length = n) : HoldsK linV 5 w g 0 L.toArray := by
  obtain ⟨_, ⟨h1, _⟩ | ⟨g', cap, cur, h1, _, hh, _, _, _, ht⟩⟩ := h
  · cases h1
  · cases h1
    unfold HoldsK
    rw [flatK_lin]
    intro j hj
    have hj' : j < (linL L).length := by simpa using hj
    have hj2 : j < cur.size := by
      have := congrArg List.length ht
      simp at this; omega
    have hc : cur[j]? = (linL L)[j]? := by
      rw [← ht, List.getElem?_take, if_pos (by have := linL_len L; omega)]
      simp
    refine ⟨?_, ?_⟩
    · simp only [World.cell?, Nat.zero_add, hh, if_true, hc]
      simp [hj', List.getElem?_eq_getElem]
    · simp [World.frozen?, hh]
theorem sort_after {L : List Lin} (h : (Sl g e 5 n c (linL L)).ok w) (hn : L.length = n) (m : Nat) (d' : Array Lin) (os : Array Obj) (hd : d'.size = n) : (Sl g e 5 n c (linL d'.toList)).ok (sortWorldK linV 5 w g 0 m d' os) := by
  obtain ⟨_, ⟨h1, _⟩ | ⟨g', cap, cur, h1, hg, hh, h2, h3, h4, ht⟩⟩ := h
  · cases h1
  · cases h1
    have hF : (flatK linV 5 d').size ≤ cur.size := by rw [size_flatK, h4, hd]; exact Nat.mul_le_mul_right 5 h2
    refine ⟨by rw [linL_len]; simp [hd], .inr ⟨g, c, putCells id 0 (flatK linV 5 d') cur, rfl, hg, ?_, h2, h3, ?_, ?_⟩⟩
    · unfold sortWorldK
      have hlt : g < w.heap.size := (Array.getElem?_eq_some_iff.1 hh).1
      rw [heap_grow_old _ _ (by simpa [putRowK, putRow, mapBlock, Sort.ahead] using hlt)]
      exact putRow_at hh _
    · simp [putCells, h4]
    · have := putCells_take hF
      rw [size_flatK, hd] at this
      rw [this, flatK_lin]
theorem sort_heap {L : List Lin} {S : Lgr} (H : Heap W (Sl g e 5 n c (linL L) :: l) w) (hn : L.length = n) (hp : L.Perm S.L) (G : S.Good) {m : Nat} {d' : Array Lin} {os : Array Obj} (h1 : PermIn 0 L.toArray.size L.toArray d') (h2 : SortedIn (ltOf cfL) 0 L.toArray.size d') :
    Heap W (Sl g e 5 n c (linL S.L) :: l) (sortWorldK linV 5 w g 0 m d' os) := by
  have hs := sorted_lines (d := L.toArray) G (by simpa using hp) h1 h2
  have hd : d'.size = n := by rw [h1.1]; simpa using hn
  have := sort_after (H.ok _ (List.mem_cons_self ..)) hn m d' os hd
  rw [hs] at this
  exact H.head (sort_grown linV 5 m d' os) this (.inl rfl)
theorem sl_lt {L : List Lin} (H : Heap W (Sl g e 5 n c (linL L) :: l) w) : g < w.heap.size := (H.fp _ (List.mem_cons_self ..) g rfl).2
end
end Go.Proofs.Ytacglcpjbepfnaa
