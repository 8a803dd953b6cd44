/- A row of structs put in order, as a thing: of whatever type. -/
import Derived.Test.YtacglcpjbepfnaaHeapOwn
import Derived.Test.YtacglcpjbepfnaaHeapSlide
import Derived.Test.YtacglcpjbepfnaaPwExt
import Derived.Shelf.SlSortCmp.WholeK
namespace Go.Proofs.Ytacglcpjbepfnaa
open Go.RowKit Go.Sort
set_option linter.unusedVariables false
set_option linter.unusedSimpArgs false
section
variable {W w : World} {l : List Thing} {g n c : Nat} {e : TypeId} {cur F : Array Value}
theorem putRow_at (h : w.heap[g]? = some (.cells cur e (0, 0))) (F : Array Value) : (putRow id w g 0 F).heap[g]? = some (.cells (putCells id 0 F cur) e (0, 0)) := by
  simp [putRow, mapBlock, Array.getElem?_modify, h, onCells]
theorem putRow_else {k : Nat} {off : Nat} (h : k ≠ g) (F : Array Value) : (putRow id w g off F).heap[k]? = w.heap[k]? := by
  simp [putRow, mapBlock, Array.getElem?_modify, Ne.symm h]
theorem putCells_take (hF : F.size ≤ cur.size) : (putCells id 0 F cur).toList.take F.size = F.toList := by
  apply List.ext_getElem?
  intro i
  rw [List.getElem?_take]
  by_cases hi : i < F.size
  · rw [if_pos hi]
    have h1 : i < cur.size := by omega
    simp [putCells, h1, hi]
  · rw [if_neg hi]
    simp [hi]
theorem sort_grown {α : Type} [Inhabited α] (enc : α → List Value) (k m : Nat) {off : Nat} (d' : Array α) (os : Array Obj) : w.grownBy (sortWorldK enc k w g off m d' os) (some g) := by
  refine ⟨rfl, rfl, rfl, size_sortWorldK_c enc k w g off m d' os, fun j hj hne => ?_⟩
  have hne : j ≠ g := fun h => hne (by rw [h])
  unfold sortWorldK
  rw [heap_grow_old _ _ (by simpa [putRowK, putRow, mapBlock, Sort.ahead] using hj)]
  unfold putRowK
  rw [putRow_else hne]
  rfl
end
section
variable {α : Type} {enc : α → List Value} {k : Nat}
theorem encL_len (he : ∀ x, (enc x).length = k) : ∀ L : List α, (L.flatMap enc).length = L.length * k
  | [] => by simp
  | x :: L => by rw [List.flatMap_cons, List.length_append, encL_len he L, he, List.length_cons, Nat.add_mul]; omega
theorem encL_at (he : ∀ x, (enc x).length = k) : ∀ (L : List α) (i : Nat) (h : i < L.length), ((L.flatMap enc).drop (i * k)).take k = enc L[i]
  | [], i, h => by simp at h
  | x :: L, 0, _ => by
    rw [List.flatMap_cons, Nat.zero_mul, List.drop_zero, List.take_append_of_le_length (by rw [he]; exact Nat.le_refl _), List.take_of_length_le (by rw [he]; exact Nat.le_refl _)]
    rfl
  | x :: L, i + 1, h => by
    have ih := encL_at he L i (by simpa using h)
    rw [List.getElem_cons_succ, ← ih, List.flatMap_cons, show (i + 1) * k = (enc x).length + i * k by rw [he, Nat.add_mul]; omega, List.drop_length_add_append]
variable [Inhabited α]
theorem flatG (he : ∀ x, (enc x).length = k) (hk : 0 < k) (d : Array α) : flatK enc k d = (d.toList.flatMap enc).toArray := by
  refine Go.Sort.ext_get! (by simp [encL_len he]) fun t ht => ?_
  have ht' : t < d.size * k := by simpa using ht
  rw [get_flatK _ _ _ _ ht']
  have hq : t / k < d.toList.length := by rw [Array.length_toList]; exact (Nat.div_lt_iff_lt_mul hk).2 ht'
  have h1 := encL_at he d.toList (t / k) hq
  have hr : t % k < k := Nat.mod_lt _ hk
  have h2 : (d.toList.flatMap enc)[t]? = (enc d.toList[t / k])[t % k]? := by
    rw [← h1, List.getElem?_take, if_pos hr, List.getElem?_drop]
    congr 1
    have := Nat.div_add_mod t k
    rw [Nat.mul_comm] at this
    omega
  have h3 : d[t / k]! = d.toList[t / k] := by
    rw [getElem!_pos d (t / k) (by simpa using hq)]; simp
  rw [h3]
  have h4 : ((d.toList.flatMap enc).toArray)[t]! = ((d.toList.flatMap enc)[t]?).getD default := by simp [Array.getElem!_eq_getD, Array.getD_eq_getD_getElem?]
  rw [h4, h2]
  simp [List.getElem!_eq_getElem?_getD]
section
variable {W w : World} {l : List Thing} {g n c : Nat} {e : TypeId} {cur F : Array Value}
theorem putRow_atO (h : w.heap[g]? = some (.cells cur e (0, 0))) (off : Nat) (F : Array Value) : (putRow id w g off F).heap[g]? = some (.cells (putCells id off F cur) e (0, 0)) := by
  simp [putRow, mapBlock, Array.getElem?_modify, h, onCells]
theorem putCells_takeO {off : Nat} (hF : off + F.size ≤ cur.size) : ((putCells id off F cur).toList.drop off).take F.size = F.toList := by
  apply List.ext_getElem?
  intro i
  rw [List.getElem?_take]
  by_cases hi : i < F.size
  · rw [if_pos hi, List.getElem?_drop]
    have h1 : off + i < cur.size := by omega
    simp [putCells, h1, hi]
  · rw [if_neg hi]
    simp [hi]
theorem sortG_holds (he : ∀ x, (enc x).length = k) (hk : 0 < k) {off : Nat} {L : List α} (h : (OwnT e k (.slice (some ⟨g, off, none⟩) n c) n (L.flatMap enc)).ok w) (hn : L.length = n) : HoldsK enc k w g off L.toArray := by
  obtain ⟨_, ⟨h1, _⟩ | ⟨g', off', cap, cur, h1, _, hh, h3, _, h5, ht⟩⟩ := h
  · cases h1
  · cases h1
    unfold HoldsK
    rw [flatG he hk]
    intro j hj
    have hj' : j < (L.flatMap enc).length := by simpa using hj
    have hj3 : j < n * k := by rw [encL_len he, hn] at hj'; exact hj'
    have hj2 : off + j < cur.size := by
      have := Nat.mul_le_mul_right k h3
      omega
    have hc : cur[off + j]? = (L.flatMap enc)[j]? := by
      rw [← ht, List.getElem?_take, if_pos hj3, List.getElem?_drop]
      simp
    rw [List.getElem?_eq_getElem hj'] at hc
    refine ⟨?_, ?_⟩
    · simp only [World.cell?, hh, if_true, hc]
      simp [hj']
      rw [List.getElem?_eq_getElem hj']
      rfl
    · simp [World.frozen?, hh]
theorem sortG_after (he : ∀ x, (enc x).length = k) (hk : 0 < k) {off : Nat} {L : List α} (h : (OwnT e k (.slice (some ⟨g, off, none⟩) n c) n (L.flatMap enc)).ok w) (m : Nat) (d' : Array α) (os : Array Obj) (hd : d'.size = n) : (OwnT e k (.slice (some ⟨g, off, none⟩) n c) n (d'.toList.flatMap enc)).ok (sortWorldK enc k w g off m d' os) := by
  obtain ⟨_, ⟨h1, _⟩ | ⟨g', off', cap, cur, h1, hg, hh, h2, h3, h4, ht⟩⟩ := h
  · cases h1
  · cases h1
    have hm := Nat.mul_le_mul_right k h2
    have hF : off + (flatK enc k d').size ≤ cur.size := by rw [size_flatK, hd]; omega
    refine ⟨by rw [encL_len he]; simp [hd], .inr ⟨g, off, c, putCells id off (flatK enc k d') cur, rfl, hg, ?_, h2, h3, ?_, ?_⟩⟩
    · unfold sortWorldK
      have hlt : g < w.heap.size := (Array.getElem?_eq_some_iff.1 hh).1
      rw [heap_grow_old _ _ (by simpa [putRowK, putRow, mapBlock, Sort.ahead] using hlt)]
      exact putRow_atO hh _ _
    · simpa [putCells] using h4
    · have := putCells_takeO hF
      rw [size_flatK, hd] at this
      rw [this, flatG he hk]
theorem sortG_heap (he : ∀ x, (enc x).length = k) (hk : 0 < k) {off : Nat} {L M : List α} (H : Heap W (OwnT e k (.slice (some ⟨g, off, none⟩) n c) n (L.flatMap enc) :: l) w) (hn : L.length = n) {m : Nat} {d' : Array α} {os : Array Obj} (h1 : PermIn 0 L.toArray.size L.toArray d') (hM : d'.toList = M) :
    Heap W (OwnT e k (.slice (some ⟨g, off, none⟩) n c) n (M.flatMap enc) :: l) (sortWorldK enc k w g off m d' os) := by
  have hd : d'.size = n := by rw [h1.1]; simpa using hn
  have := sortG_after he hk (H.ok _ (List.mem_cons_self ..)) m d' os hd
  rw [hM] at this
  exact H.head (sort_grown enc k m d' os) this (.inl rfl)
theorem slG_lt {xs : List Value} {z off : Nat} (H : Heap W (OwnT e z (.slice (some ⟨g, off, none⟩) n c) n xs :: l) w) : g < w.heap.size := (H.fp _ (List.mem_cons_self ..) g rfl).2
end
/-- What is sorted is the one list in this order. -/
theorem sortedG {cf : α → α → Int} {r : α → α → Prop} (ra : ∀ x y, r x y → ¬ r y x) {M : List α} (hM : M.Pairwise r) (hr : ∀ x ∈ M, ∀ y ∈ M, r x y → ltOf cf x y = true) {d d' : Array α} (hd : d.toList.Perm M) (hp : PermIn 0 d.size d d') (hs : SortedIn (ltOf cf) 0 d.size d') : d'.toList = M := by
  obtain ⟨hsz, _, hperm⟩ := hp
  have e1 : d'.extract 0 d.size = d' := by rw [← hsz]; simp
  have e2 : d.extract 0 d.size = d := by simp
  rw [e1, e2] at hperm
  have hP : d'.toList.Perm M := hperm.trans hd
  have hndM : M.Nodup := pw_nodup (fun x h => ra x x h h) hM
  have hnd : d'.toList.Nodup := hP.nodup_iff.2 hndM
  refine pw_ext ra ?_ hM (fun z => hP.mem_iff)
  rw [List.pairwise_iff_getElem]
  intro i j hi hj hij
  have hi' : i < d'.size := by simpa using hi
  have hj' : j < d'.size := by simpa using hj
  have h := hs i j (Nat.zero_le _) hij (by omega)
  rw [getElem!_pos d' i hi', getElem!_pos d' j hj'] at h
  have mi : d'[i] ∈ M := hP.mem_iff.1 (by simp)
  have mj : d'[j] ∈ M := hP.mem_iff.1 (by simp)
  have hne := List.pairwise_iff_getElem.1 hnd i j hi hj hij
  simp only [Array.getElem_toList] at hne ⊢
  obtain ⟨a, ha, ea⟩ := List.mem_iff_getElem.1 mi
  obtain ⟨b, hb, eb⟩ := List.mem_iff_getElem.1 mj
  rw [← ea, ← eb] at hne ⊢
  rcases Nat.lt_trichotomy a b with h2 | h2 | h2
  · exact List.pairwise_iff_getElem.1 hM a b ha hb h2
  · subst h2; exact absurd rfl hne
  · have h3 := List.pairwise_iff_getElem.1 hM b a hb ha h2
    rw [ea, eb] at h3
    rw [hr _ mj _ mi h3] at h
    cases h
end
end Go.Proofs.Ytacglcpjbepfnaa
