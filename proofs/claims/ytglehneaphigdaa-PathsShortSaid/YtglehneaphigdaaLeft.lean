/- PathsLeast's table against the distances: plain laws. -/
import Derived.Test.YtglehneaphigdaaWays
namespace Go.Proofs.Ytglehneaphigdaa
set_option linter.unusedVariables false
/-- One step of the table. -/
def relT (A : Nat → Nat → Bool) (T : Nat → Nat) (a b : Nat) : Nat → Nat := if A a b = true ∧ T b + 1 < T a then updN T a (T b + 1) else T
/-- What it never loses: it stands for ways, or there is none. -/
def Sound (d T : Nat → Nat) : Prop := ∀ p, T p = 99 ∨ (d p ≤ T p ∧ d p < 17 ∧ T p ≤ 98)
theorem relT_le (A : Nat → Nat → Bool) (T : Nat → Nat) (a b p : Nat) : relT A T a b p ≤ T p := by
  unfold relT
  split
  · rename_i h
    simp only [updN]
    split
    · rename_i e; subst e; omega
    · omega
  · omega
theorem relT_at (A : Nat → Nat → Bool) (T : Nat → Nat) (a b : Nat) (h : A a b = true) : relT A T a b a ≤ T b + 1 := by
  unfold relT
  split
  · simp [updN]
  · rename_i hn
    have : ¬ T b + 1 < T a := fun e => hn ⟨h, e⟩
    omega
theorem Sound.rel {A : Nat → Nat → Bool} {t : Nat} {d T : Nat → Nat} (hd : IsDist A t d) (h : Sound d T) (a b : Nat) (hA : A a b = true → a ≤ 16) : Sound d (relT A T a b) := by
  intro p
  unfold relT
  split
  · rename_i hc
    simp only [updN]
    split
    · rename_i e
      subst e
      have hb := h b
      have ha := h p
      have hs := hd.step p b hc.1
      have h17 := hd.le p
      right
      have hb2 : d b ≤ T b ∧ d b < 17 ∧ T b ≤ 98 := by
        rcases hb with hb | hb
        · rcases ha with ha | ha <;> omega
        · exact hb
      have hi := hd.ins b hb2.2.1
      refine ⟨by omega, by omega, ?_⟩
      rcases ha with ha | ha <;> omega
    · exact h p
  · exact h p
structure InvN (d : Nat → Nat) (n : Nat) (T : Nat → Nat) : Prop where
  snd : Sound d T
  low : ∀ p, d p ≤ n → d p < 17 → T p = d p
structure InvA (d : Nat → Nat) (n a : Nat) (T : Nat → Nat) : Prop where
  snd : Sound d T
  low : ∀ p, d p ≤ n → d p < 17 → T p = d p
  cur : ∀ p, p < a → d p = n + 1 → d p < 17 → T p = d p
structure InvB (A : Nat → Nat → Bool) (d : Nat → Nat) (n a b : Nat) (T : Nat → Nat) : Prop where
  inv : InvA d n a T
  row : ∀ q, q < b → A a q = true → d q = n → T a ≤ n + 1
theorem Sound.keep {d T T' : Nat → Nat} {p : Nat} (h : Sound d T') (hle : T' p ≤ T p) (e : T p = d p) (h17 : d p < 17) : T' p = d p := by
  rcases h p with h | h <;> omega
theorem InvA.start {d T : Nat → Nat} {A : Nat → Nat → Bool} {t n : Nat} (hd : IsDist A t d) (h : InvN d n T) : InvA d n 1 T :=
  ⟨h.snd, h.low, fun p hp e h17 => by have := (hd.ins p h17).1; omega⟩
theorem InvB.start {d T : Nat → Nat} {A : Nat → Nat → Bool} {n a : Nat} (h0 : A a 0 = false) (h : InvA d n a T) : InvB A d n a 1 T :=
  ⟨h, fun q hq hA _ => by
    obtain rfl : q = 0 := by omega
    rw [h0] at hA; cases hA⟩
theorem InvB.step {d T : Nat → Nat} {A : Nat → Nat → Bool} {t n a b : Nat} (hd : IsDist A t d) (hA : ∀ a b, A a b = true → a ≤ 16) (hn : n ≤ 15) (h : InvB A d n a b T) : InvB A d n a (b + 1) (relT A T a b) := by
  have hs := h.inv.snd.rel hd a b (hA a b)
  refine ⟨⟨hs, fun p hp h17 => hs.keep (relT_le A T a b p) (h.inv.low p hp h17) h17, fun p hp e h17 => hs.keep (relT_le A T a b p) (h.inv.cur p hp e h17) h17⟩, fun q hq hq2 hdq => ?_⟩
  by_cases e : q = b
  · subst e
    have h1 := relT_at A T a q hq2
    have h2 := h.inv.low q (by omega) (by omega)
    omega
  · exact Nat.le_trans (relT_le A T a b a) (h.row q (by omega) hq2 hdq)
theorem InvB.done {d T : Nat → Nat} {A : Nat → Nat → Bool} {t n a : Nat} (hd : IsDist A t d) (h : InvB A d n a 17 T) : InvA d n (a + 1) T :=
  ⟨h.inv.snd, h.inv.low, fun p hp e h17 => by
    by_cases hpa : p = a
    · subst hpa
      have hpt : p ≠ t := fun e2 => by subst e2; have := hd.top; omega
      obtain ⟨q, hA, hq⟩ := hd.par p h17 hpt
      have hi := hd.ins q (by omega)
      have := h.row q (by omega) hA (by omega)
      rcases h.inv.snd p with h2 | h2 <;> omega
    · exact h.inv.cur p (by omega) e h17⟩
theorem InvA.done {d T : Nat → Nat} {A : Nat → Nat → Bool} {t n : Nat} (hd : IsDist A t d) (h : InvA d n 17 T) : InvN d (n + 1) T :=
  ⟨h.snd, fun p hp h17 => by
    by_cases e : d p ≤ n
    · exact h.low p e h17
    · have := (hd.ins p h17).2.1
      exact h.cur p (by omega) (by omega) h17⟩
theorem InvN.start {d : Nat → Nat} {A : Nat → Nat → Bool} {t : Nat} (hd : IsDist A t d) : InvN d 0 (updN (fun _ => 99) t 0) :=
  ⟨fun p => by
    simp only [updN]
    split
    · rename_i e; subst e; right; have := hd.top; omega
    · exact .inl rfl, fun p hp h17 => by
    have e := hd.zero (show d p = 0 by omega)
    subst e
    simp [updN, hd.top]⟩
/-- Behind sixteen rounds the table is the distances'. -/
theorem InvN.end {d T : Nat → Nat} {A : Nat → Nat → Bool} {t : Nat} (hd : IsDist A t d) (h : InvN d 16 T) (p : Nat) : T p = if d p < 17 then d p else 99 := by
  by_cases e : d p < 17
  · rw [if_pos e, h.low p (by omega) e]
  · rw [if_neg e]
    rcases h.snd p with h2 | h2
    · exact h2
    · omega
/-- One round of the search by breadth, done. -/
theorem BfsIn.finish {A : Nat → Nat → Bool} {t a : Nat} (hA : ∀ p q, A p q = true → p ≤ 16) : ∀ (j k : Nat) (d : Nat → Nat) (Q : List Nat), k + j = 17 → 1 ≤ k → BfsIn A t d Q a k → ∃ d2 Q2, Bfs A t d2 Q2 ∧ 2 * und d2 + Q2.length ≤ 2 * und d + Q.length
  | 0, k, d, Q, hk, _, h => by
    obtain rfl : k = 17 := by omega
    exact ⟨d, Q, h.done hA, Nat.le_refl _⟩
  | j + 1, k, d, Q, hk, h1, h => by
    by_cases hc : d k = 17 ∧ A k a = true
    · obtain ⟨h2, h3⟩ := h.yes hc.1 hc.2 h1 (by omega)
      obtain ⟨d2, Q2, h4, h5⟩ := BfsIn.finish hA j (k + 1) _ _ (by omega) (by omega) h2
      refine ⟨d2, Q2, h4, ?_⟩
      rw [List.length_append, List.length_singleton] at h5
      omega
    · exact BfsIn.finish hA j (k + 1) _ _ (by omega) (by omega) (h.no hc)
theorem Bfs.finish {A : Nat → Nat → Bool} {t : Nat} (hA : ∀ p q, A p q = true → p ≤ 16) (h0 : ∀ a, A 0 a = false) : ∀ (m : Nat) (d : Nat → Nat) (Q : List Nat), 2 * und d + Q.length ≤ m → Bfs A t d Q → ∃ d2, IsDist A t d2
  | m, d, [], _, h => ⟨d, h.dist⟩
  | 0, d, a :: Q, hm, _ => by simp at hm
  | m + 1, d, a :: Q, hm, h => by
    obtain ⟨d2, Q2, h2, h3⟩ := BfsIn.finish hA 16 1 d Q rfl (Nat.le_refl _) (h.pop (h0 a))
    rw [List.length_cons] at hm
    exact Bfs.finish hA h0 m d2 Q2 (by omega) h2
/-- Distances there are. -/
theorem exists_dist {A : Nat → Nat → Bool} {t : Nat} (h1 : 1 ≤ t) (h2 : t ≤ 16) (hA : ∀ p q, A p q = true → p ≤ 16) (h0 : ∀ a, A 0 a = false) : ∃ d, IsDist A t d :=
  Bfs.finish hA h0 _ _ _ (Nat.le_refl _) (Bfs.start h1 h2)
end Go.Proofs.Ytglehneaphigdaa
