/- Who is reached, over a list of edges: plain laws. -/
import Derived.Test.YtglehneaphigdaaRef05b
import Derived.Test.YtglehneaphigdaaShort
namespace Go.Proofs.Ytglehneaphigdaa
set_option linter.unusedVariables false
/-- Who is reached over so many edges at most. -/
def reachF (F : List Flw) (f : Nat) : Nat → Nat → Bool
  | 0, p => p == f
  | n + 1, p => reachF F f n p || F.any fun x => reachF F f n x.f && (x.t == p)
theorem reachF_succ {F : List Flw} {f n p : Nat} : reachF F f (n + 1) p = true ↔ reachF F f n p = true ∨ ∃ x ∈ F, reachF F f n x.f = true ∧ x.t = p := by
  rw [reachF, Bool.or_eq_true, List.any_eq_true]
  simp
theorem reachF_mono {F : List Flw} {f p : Nat} : ∀ {n m : Nat}, n ≤ m → reachF F f n p = true → reachF F f m p = true
  | n, 0, h, hr => by obtain rfl : n = 0 := by omega
                      exact hr
  | n, m + 1, h, hr => by
    by_cases e : n = m + 1
    · subst e; exact hr
    · exact reachF_succ.2 (.inl (reachF_mono (by omega) hr))
theorem edge_mem {c : Caps} {a b : Nat} (ha : a < 17) (hb : b < 17) : (∃ x ∈ edgesOf c, x.f = a ∧ x.t = b) ↔ 0 < c a b := by
  have h := matE_any c a b 17
  rw [Bool.eq_iff_iff, List.any_eq_true] at h
  simp only [decide_eq_true_eq] at h
  constructor
  · intro hx; exact (h.1 hx).2.2
  · intro hp; exact h.2 ⟨ha, hb, hp⟩
theorem GoodC.edge {c : Caps} (h : GoodC c) {a b : Nat} : Proofs.Ytglehneaphigdaa.edge c a b = true ↔ 0 < c a b := by
  unfold Proofs.Ytglehneaphigdaa.edge
  rw [h.capOf]
  simp
theorem mem_edge {c : Caps} (h : GoodC c) {x : Flw} (hx : x ∈ edgesOf c) : edge c x.f x.t = true := by
  have := matE_mem 17 hx
  exact h.edge.2 (by omega)
theorem reach_le {c : Caps} (hc : GoodC c) {t : Nat} {d : Nat → Nat} (hd : IsDist (edge c) t d) (f : Nat) : ∀ n q, reachF (edgesOf c) f n q = true → d f ≤ n + d q
  | 0, q, h => by
    have : q = f := by simpa [reachF] using h
    subst this; omega
  | n + 1, q, h => by
    rcases reachF_succ.1 h with h | ⟨x, hx, hr, rfl⟩
    · have := reach_le hc hd f n q h; omega
    · have h1 := reach_le hc hd f n x.f hr
      have h2 := hd.step x.f x.t (mem_edge hc hx)
      omega
theorem reach_cons {c : Caps} (hc : GoodC c) {p q : Nat} (h : edge c p q = true) : ∀ n r, reachF (edgesOf c) q n r = true → reachF (edgesOf c) p (n + 1) r = true
  | 0, r, hr => by
    have : r = q := by simpa [reachF] using hr
    subst this
    have hp := hc.edge.1 h
    have hm := hc.may p r hp
    have h1 := mayP_true hm.1
    have h2 := mayP_true hm.2
    obtain ⟨x, hx, e1, e2⟩ := (edge_mem (c := c) (a := p) (b := r) (by omega) (by omega)).2 hp
    exact reachF_succ.2 (.inr ⟨x, hx, by simp [reachF, e1], e2⟩)
  | n + 1, r, hr => by
    rcases reachF_succ.1 hr with h1 | ⟨x, hx, h2, h3⟩
    · exact reachF_succ.2 (.inl (reach_cons hc h n r h1))
    · exact reachF_succ.2 (.inr ⟨x, hx, reach_cons hc h n x.f h2, h3⟩)
theorem reach_ge {c : Caps} (hc : GoodC c) {t : Nat} {d : Nat → Nat} (hd : IsDist (edge c) t d) : ∀ k f, d f = k → k < 17 → reachF (edgesOf c) f k t = true
  | 0, f, h, _ => by rw [hd.zero h]; simp [reachF]
  | k + 1, f, h, hk => by
    have hne : f ≠ t := fun e => by subst e; have := hd.top; omega
    obtain ⟨q, hA, hq⟩ := hd.par f (by omega) hne
    exact reach_cons hc hA k t (reach_ge hc hd k q (by omega) (by omega))
theorem reach_iff {c : Caps} (hc : GoodC c) {t : Nat} {d : Nat → Nat} (hd : IsDist (edge c) t d) {f n : Nat} (hn : n < 17) : reachF (edgesOf c) f n t = decide (d f ≤ n) := by
  rw [Bool.eq_iff_iff, decide_eq_true_eq]
  constructor
  · intro h
    have := reach_le hc hd f n t h
    have := hd.top
    omega
  · intro h
    exact reachF_mono h (reach_ge hc hd (d f) f rfl (by omega))
theorem IsShort.eq {c : Caps} {f t : Nat} {L M : List Nat} (h : IsShort c f t L) (g : IsShort c f t M) : L = M := by
  rcases h with ⟨rfl, h⟩ | ⟨h1, h2, h3, d, hd, h17, hw⟩
  · rcases g with ⟨rfl, _⟩ | ⟨g1, g2, g3, e, he, g17, _⟩
    · rfl
    · rcases h with h | h | h | ⟨d, hd, h⟩
      · rw [g1] at h; cases h
      · rw [g2] at h; cases h
      · exact absurd h g3
      · rw [hd.eq he f] at h; omega
  · rcases g with ⟨rfl, g⟩ | ⟨_, _, _, e, he, g17, gw⟩
    · rcases g with h | h | h | ⟨e, he, h⟩
      · rw [h1] at h; cases h
      · rw [h2] at h; cases h
      · exact absurd h h3
      · rw [he.eq hd f] at h; omega
    · obtain rfl : d = e := funext (hd.eq he)
      exact hw.eq gw
theorem IsShort.le {c : Caps} {f t : Nat} {L : List Nat} (h : IsShort c f t L) : L.length ≤ 16 ∧ ∀ x ∈ L, x ≤ 16 := by
  rcases h with ⟨rfl, _⟩ | ⟨h1, h2, h3, d, hd, h17, hw⟩
  · exact ⟨by simp, fun x hx => by cases hx⟩
  · have hi := hd.ins f h17
    refine ⟨by have := hw.len; omega, fun x hx => ?_⟩
    obtain ⟨i, hi2⟩ := List.mem_iff_getElem?.1 hx
    have key : ∀ i x, L[i]? = some x → d x + i = d f := by
      intro i
      induction i with
      | zero => intro x hx; rw [hw.head] at hx; cases hx; rfl
      | succ i ih =>
        intro x hx
        have hi : i + 1 < L.length := by
          apply Classical.byContradiction
          intro hn
          rw [List.getElem?_eq_none (by omega)] at hx
          cases hx
        have hy : L[i]? = some L[i] := List.getElem?_eq_getElem (by omega)
        have h1 := ih _ hy
        have h2 := (hw.steps i _ x hy hx).good.1
        omega
    have := key i x hi2
    have := hd.ins x (by omega)
    omega
end Go.Proofs.Ytglehneaphigdaa
