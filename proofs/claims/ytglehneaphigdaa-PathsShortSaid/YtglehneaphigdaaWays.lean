/- Shortest ways: plain laws, with no program in sight. -/
import Derived.Test.YtglehneaphigdaaBfs
namespace Go.Proofs.Ytglehneaphigdaa
set_option linter.unusedVariables false
/-- Is p a step on from a, one nearer? -/
def GoodP (A : Nat → Nat → Bool) (d : Nat → Nat) (a p : Nat) : Prop := d p + 1 = d a ∧ A a p = true
/-- The least such party. -/
structure IsNext (A : Nat → Nat → Bool) (d : Nat → Nat) (a p : Nat) : Prop where
  ge : 1 ≤ p
  le : p ≤ 16
  good : GoodP A d a p
  least : ∀ q, 1 ≤ q → q < p → ¬ GoodP A d a q
theorem IsNext.eq {A : Nat → Nat → Bool} {d : Nat → Nat} {a p q : Nat} (h : IsNext A d a p) (g : IsNext A d a q) : p = q := by
  rcases Nat.lt_trichotomy p q with e | e | e
  · exact absurd h.good (g.least p h.ge e)
  · exact e
  · exact absurd g.good (h.least q g.ge e)
/-- Each is the one ahead of it's next one. -/
def Steps (A : Nat → Nat → Bool) (d : Nat → Nat) (L : List Nat) : Prop := ∀ i x y, L[i]? = some x → L[i + 1]? = some y → IsNext A d x y
theorem Steps.one (A : Nat → Nat → Bool) (d : Nat → Nat) (a : Nat) : Steps A d [a] := by
  intro i x y h1 h2
  simp at h2
theorem Steps.snoc {A : Nat → Nat → Bool} {d : Nat → Nat} {L : List Nat} {a k : Nat} (h : Steps A d L) (hl : L[L.length - 1]? = some a) (hk : IsNext A d a k) : Steps A d (L ++ [k]) := by
  intro i x y h1 h2
  by_cases hi : i + 1 < L.length
  · rw [List.getElem?_append_left (by omega)] at h1 h2
    exact h i x y h1 h2
  · have hlen : 0 < L.length := by
      rcases L with _ | ⟨b, L⟩
      · simp at hl
      · simp
    by_cases hj : i + 1 = L.length
    · rw [List.getElem?_append_left (by omega)] at h1
      rw [hj, List.getElem?_append_right (by omega)] at h2
      simp at h2
      rw [show L.length - 1 = i by omega, h1] at hl
      cases hl
      subst h2
      exact hk
    · rw [List.getElem?_eq_none (by simp; omega)] at h2
      cases h2
/-- A shortest way, in distances d to t. -/
structure Way (A : Nat → Nat → Bool) (d : Nat → Nat) (f t : Nat) (L : List Nat) : Prop where
  head : L[0]? = some f
  last : L[L.length - 1]? = some t
  len : L.length = d f + 1
  steps : Steps A d L
/-- What a way's beginning is. -/
structure WayTo (A : Nat → Nat → Bool) (d : Nat → Nat) (f a : Nat) (L : List Nat) : Prop where
  head : L[0]? = some f
  last : L[L.length - 1]? = some a
  len : L.length + d a = d f + 1
  steps : Steps A d L
theorem WayTo.start (A : Nat → Nat → Bool) (d : Nat → Nat) (f : Nat) : WayTo A d f f [f] := ⟨rfl, rfl, by simp; omega, Steps.one A d f⟩
theorem WayTo.snoc {A : Nat → Nat → Bool} {d : Nat → Nat} {f a k : Nat} {L : List Nat} (h : WayTo A d f a L) (hk : IsNext A d a k) : WayTo A d f k (L ++ [k]) := by
  have hlen : 0 < L.length := by
    rcases L with _ | ⟨b, L⟩
    · have := h.head; simp at this
    · simp
  refine ⟨?_, ?_, ?_, h.steps.snoc h.last hk⟩
  · rw [List.getElem?_append_left (by omega)]; exact h.head
  · simp
  · have := hk.good.1
    have := h.len
    simp
    omega
theorem WayTo.done {A : Nat → Nat → Bool} {d : Nat → Nat} {f t : Nat} {L : List Nat} (h : WayTo A d f t L) (ht : d t = 0) : Way A d f t L := ⟨h.head, h.last, by have := h.len; omega, h.steps⟩
/-- Two ways are one. -/
theorem Way.eq {A : Nat → Nat → Bool} {d : Nat → Nat} {f t : Nat} {L M : List Nat} (h : Way A d f t L) (g : Way A d f t M) : L = M := by
  have hl : L.length = M.length := by rw [h.len, g.len]
  have key : ∀ i, i < L.length → L[i]? = M[i]? := by
    intro i
    induction i with
    | zero => intro _; rw [h.head, g.head]
    | succ i ih =>
      intro hi
      have e := ih (by omega)
      have h1 : ∃ x, L[i]? = some x := ⟨L[i], List.getElem?_eq_getElem (by omega)⟩
      have h2 : ∃ x, L[i + 1]? = some x := ⟨L[i + 1], List.getElem?_eq_getElem hi⟩
      have h3 : ∃ x, M[i + 1]? = some x := ⟨M[i + 1], List.getElem?_eq_getElem (by omega)⟩
      obtain ⟨x, hx⟩ := h1
      obtain ⟨y, hy⟩ := h2
      obtain ⟨z, hz⟩ := h3
      rw [hy, hz, (h.steps i x y hx hy).eq (g.steps i x z (by rw [← e]; exact hx) hz)]
  apply List.ext_getElem?
  intro i
  by_cases hi : i < L.length
  · exact key i hi
  · rw [List.getElem?_eq_none (by omega), List.getElem?_eq_none (by omega)]
/-- A next one there is, while the end is not reached. -/
theorem IsDist.next {A : Nat → Nat → Bool} {t a : Nat} {d : Nat → Nat} (h : IsDist A t d) (ha : d a < 17) (hne : a ≠ t) : ¬ ∀ q, 1 ≤ q → q < 17 → ¬ GoodP A d a q := by
  intro hn
  obtain ⟨q, hA, hq⟩ := h.par a ha hne
  have := h.ins q (by omega)
  exact hn q this.1 (by omega) ⟨hq, hA⟩
theorem IsDist.zero {A : Nat → Nat → Bool} {t a : Nat} {d : Nat → Nat} (h : IsDist A t d) (ha : d a = 0) : a = t := by
  apply Classical.byContradiction
  intro hne
  obtain ⟨q, hA, hq⟩ := h.par a (by omega) hne
  omega
end Go.Proofs.Ytglehneaphigdaa
