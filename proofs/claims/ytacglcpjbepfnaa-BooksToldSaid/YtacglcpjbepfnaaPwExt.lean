/- Lists in a strict order. (Plain.) -/
import Derived.RowKit
namespace Go.Proofs.Ytacglcpjbepfnaa
theorem pw_ext {α : Type} {r : α → α → Prop} (ha : ∀ x y, r x y → ¬ r y x) : ∀ {L M : List α}, L.Pairwise r → M.Pairwise r → (∀ z, z ∈ L ↔ z ∈ M) → L = M
  | [], [], _, _, _ => rfl
  | [], b :: M, _, _, h => by have := (h b).2 (List.mem_cons_self ..); cases this
  | a :: L, [], _, _, h => by have := (h a).1 (List.mem_cons_self ..); cases this
  | a :: L, b :: M, hL, hM, h => by
    have h1 := List.pairwise_cons.1 hL
    have h2 := List.pairwise_cons.1 hM
    have e : a = b := by
      rcases List.mem_cons.1 ((h a).1 (List.mem_cons_self ..)) with e | ha'
      · exact e
      · rcases List.mem_cons.1 ((h b).2 (List.mem_cons_self ..)) with e | hb
        · exact e.symm
        · exact absurd (h2.1 _ ha') (ha _ _ (h1.1 _ hb))
    subst e
    congr 1
    refine pw_ext ha h1.2 h2.2 fun z => ⟨fun hz => ?_, fun hz => ?_⟩
    · rcases List.mem_cons.1 ((h z).1 (List.mem_cons_of_mem _ hz)) with e | hz'
      · subst e; exact absurd (h1.1 _ hz) (ha _ _ (h1.1 _ hz))
      · exact hz'
    · rcases List.mem_cons.1 ((h z).2 (List.mem_cons_of_mem _ hz)) with e | hz'
      · subst e; exact absurd (h2.1 _ hz) (ha _ _ (h2.1 _ hz))
      · exact hz'
theorem pw_nodup {α : Type} {r : α → α → Prop} (hr : ∀ x, ¬ r x x) {L : List α} (h : L.Pairwise r) : L.Nodup := by
  unfold List.Nodup
  exact h.imp fun {a b} hab e => by subst e; exact hr _ hab
theorem nodup_map_on {α β : Type} {f : α → β} : ∀ {l : List α}, l.Nodup → (∀ x ∈ l, ∀ y ∈ l, f x = f y → x = y) → (l.map f).Nodup
  | [], _, _ => by simp
  | a :: l, h, hi => by
    rw [List.nodup_cons] at h
    rw [List.map_cons, List.nodup_cons]
    refine ⟨fun hm => ?_, nodup_map_on h.2 fun x hx y hy => hi x (List.mem_cons_of_mem _ hx) y (List.mem_cons_of_mem _ hy)⟩
    obtain ⟨b, hb, e⟩ := List.mem_map.1 hm
    have := hi b (List.mem_cons_of_mem _ hb) a List.mem_cons_self e
    exact h.1 (this ▸ hb)
theorem perm_of_nodup {α : Type} : ∀ {A B : List α}, A.Nodup → B.Nodup → (∀ z, z ∈ A ↔ z ∈ B) → A.Perm B
  | [], B, _, _, h => by
    cases B with
    | nil => exact .nil
    | cons b B => have := (h b).2 List.mem_cons_self; cases this
  | a :: A, B, hA, hB, h => by
    obtain ⟨s, t, rfl⟩ := List.append_of_mem ((h a).1 List.mem_cons_self)
    have h1 := List.nodup_cons.1 hA
    have hp : (s ++ a :: t).Perm (a :: (s ++ t)) := List.perm_middle
    have h2 := List.nodup_cons.1 (hp.nodup_iff.1 hB)
    refine ((perm_of_nodup h1.2 h2.2 fun z => ⟨fun hz => ?_, fun hz => ?_⟩).cons a).trans hp.symm
    · have := hp.mem_iff.1 ((h z).1 (List.mem_cons_of_mem _ hz))
      rcases List.mem_cons.1 this with e | e
      · exact absurd (e ▸ hz) h1.1
      · exact e
    · have := (h z).2 (hp.mem_iff.2 (List.mem_cons_of_mem _ hz))
      rcases List.mem_cons.1 this with e | e
      · exact absurd (e ▸ hz) h2.1
      · exact e
theorem perm_sumI : ∀ {A B : List Int}, A.Perm B → A.sum = B.sum := fun h => by
  induction h with
  | nil => rfl
  | cons x h ih => simp [ih]
  | swap x y l => simp; omega
  | trans h1 h2 ih1 ih2 => exact ih1.trans ih2
end Go.Proofs.Ytacglcpjbepfnaa
