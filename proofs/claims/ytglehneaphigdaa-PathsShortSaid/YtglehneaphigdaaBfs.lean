/- Distances by breadth: plain laws, with no program in sight. -/
namespace Go.Proofs.Ytglehneaphigdaa
set_option linter.unusedVariables false
/-- A value of one more place. -/
def updN {α : Type} (d : Nat → α) (p : Nat) (v : α) : Nat → α := fun q => if q = p then v else d q
/-- How many of the parties have no distance. -/
def und (d : Nat → Nat) : Nat := (List.range' 1 16).countP fun p => d p == 17
theorem countP_upd (d : Nat → Nat) (p v : Nat) (hv : v ≠ 17) (hd : d p = 17) : ∀ (l : List Nat), l.Nodup → l.countP (fun q => updN d p v q == 17) + (if p ∈ l then 1 else 0) = l.countP (fun q => d q == 17)
  | [], _ => by simp
  | x :: l, h => by
    have ih := countP_upd d p v hv hd l (List.nodup_cons.1 h).2
    have hx := (List.nodup_cons.1 h).1
    by_cases e : x = p
    · subst e
      have h1 : (updN d x v x == 17) = false := by simp [updN, hv]
      have h2 : (d x == 17) = true := by simp [hd]
      simp only [List.countP_cons, h1, h2]
      rw [if_neg hx] at ih
      simp
      omega
    · have e2 : updN d p v x = d x := by simp [updN, e]
      have hm : (p ∈ x :: l) ↔ p ∈ l := by
        rw [List.mem_cons]
        exact ⟨fun h => h.resolve_left (fun h => e h.symm), .inr⟩
      simp only [List.countP_cons, e2, hm]
      omega
theorem und_upd {d : Nat → Nat} {p v : Nat} (hv : v ≠ 17) (hd : d p = 17) (h1 : 1 ≤ p) (h2 : p ≤ 16) : und (updN d p v) + 1 = und d := by
  have := countP_upd d p v hv hd (List.range' 1 16) (List.nodup_range' ..)
  rw [if_pos (by rw [List.mem_range']; exact ⟨p - 1, by omega, by omega⟩)] at this
  exact this
theorem und_le (d : Nat → Nat) : und d ≤ 16 := by
  have := List.countP_le_length (p := fun p => d p == 17) (l := List.range' 1 16)
  simpa [und] using this
/-- The state ahead of a round: who has a distance, and who waits. -/
structure Bfs (A : Nat → Nat → Bool) (t : Nat) (d : Nat → Nat) (Q : List Nat) : Prop where
  top : d t = 0
  le : ∀ p, d p ≤ 17
  ins : ∀ p, d p < 17 → 1 ≤ p ∧ p ≤ 16
  qd : ∀ q ∈ Q, d q < 17
  near : ∀ q ∈ Q, ∀ p, d p < 17 → d p ≤ d q + 1
  sort : Q.Pairwise fun x y => d x ≤ d y
  closed : ∀ q, d q < 17 → q ∉ Q → ∀ p, A p q = true → d p ≤ d q + 1
  par : ∀ p, d p < 17 → p ≠ t → ∃ q, A p q = true ∧ d q + 1 = d p
  cnt : ∀ p, d p < 17 → d p + und d ≤ 15
/-- The state in the midst of a round: a is gone through, up to k. -/
structure BfsIn (A : Nat → Nat → Bool) (t : Nat) (d : Nat → Nat) (Q : List Nat) (a k : Nat) : Prop where
  top : d t = 0
  le : ∀ p, d p ≤ 17
  ins : ∀ p, d p < 17 → 1 ≤ p ∧ p ≤ 16
  qd : ∀ q ∈ Q, d q < 17
  near : ∀ q ∈ Q, ∀ p, d p < 17 → d p ≤ d q + 1
  sort : Q.Pairwise fun x y => d x ≤ d y
  ad : d a < 17
  nearA : ∀ p, d p < 17 → d p ≤ d a + 1
  sortA : ∀ q ∈ Q, d a ≤ d q
  closed : ∀ q, d q < 17 → q ∉ Q → q ≠ a → ∀ p, A p q = true → d p ≤ d q + 1
  part : ∀ p, p < k → A p a = true → d p ≤ d a + 1
  par : ∀ p, d p < 17 → p ≠ t → ∃ q, A p q = true ∧ d q + 1 = d p
  cnt : ∀ p, d p < 17 → d p + und d ≤ 15
section
variable {A : Nat → Nat → Bool} {t a k : Nat} {d : Nat → Nat} {Q : List Nat}
/-- No distance. -/
def farN : Nat → Nat := fun _ => 17
theorem farN_at (p : Nat) : farN p = 17 := rfl
theorem Bfs.start (h1 : 1 ≤ t) (h2 : t ≤ 16) : Bfs A t (updN farN t 0) [t] := by
  have hd : ∀ p, updN farN t 0 p < 17 → p = t := fun p hp => by
    unfold updN at hp
    split at hp
    · assumption
    · rw [farN_at] at hp; omega
  have hu : und (updN farN t 0) ≤ 15 := by
    have := und_upd (d := farN) (p := t) (v := 0) (by omega) rfl h1 h2
    have := und_le farN
    omega
  have ht : updN farN t 0 t = 0 := by simp [updN]
  have hle : ∀ p, updN farN t 0 p ≤ 17 := fun p => by
    unfold updN
    split
    · omega
    · rw [farN_at]; omega
  refine ⟨ht, hle, fun p hp => (by rw [hd p hp]; exact ⟨h1, h2⟩), fun q hq => (by simp at hq; subst hq; rw [ht]; omega), fun q hq p hp => (by rw [hd p hp, ht]; omega), List.pairwise_singleton _ _, fun q hq hn => ?_, fun p hp hn => absurd (hd p hp) hn, fun p hp => (by rw [hd p hp, ht]; omega)⟩
  rw [hd q hq] at hn
  simp at hn
theorem Bfs.pop (h : Bfs A t d (a :: Q)) (h0 : A 0 a = false) : BfsIn A t d Q a 1 :=
  ⟨h.top, h.le, h.ins, fun q hq => h.qd q (List.mem_cons_of_mem _ hq), fun q hq => h.near q (List.mem_cons_of_mem _ hq), (List.pairwise_cons.1 h.sort).2, h.qd a (List.mem_cons_self ..), h.near a (List.mem_cons_self ..), (List.pairwise_cons.1 h.sort).1,
    fun q hq hn hne => h.closed q hq (by simp [hne, hn]), fun p hp hA => (by
      obtain rfl : p = 0 := by omega
      rw [h0] at hA; cases hA), h.par, h.cnt⟩
theorem BfsIn.no (h : BfsIn A t d Q a k) (hk : ¬ (d k = 17 ∧ A k a = true)) : BfsIn A t d Q a (k + 1) :=
  ⟨h.top, h.le, h.ins, h.qd, h.near, h.sort, h.ad, h.nearA, h.sortA, h.closed, fun p hp hA => (by
      by_cases e : p = k
      · subst e
        have : d p ≠ 17 := fun e => hk ⟨e, hA⟩
        have := h.le p
        exact h.nearA p (by omega)
      · exact h.part p (by omega) hA), h.par, h.cnt⟩
theorem BfsIn.yes (h : BfsIn A t d Q a k) (hd : d k = 17) (hA : A k a = true) (h1 : 1 ≤ k) (h2 : k ≤ 16) : BfsIn A t (updN d k (d a + 1)) (Q ++ [k]) a (k + 1) ∧ und (updN d k (d a + 1)) + 1 = und d := by
  have hka : a ≠ k := fun e => by have := h.ad; rw [e] at this; omega
  have hca := h.cnt a h.ad
  have hu : und (updN d k (d a + 1)) + 1 = und d := und_upd (by omega) hd h1 h2
  have old : ∀ p, p ≠ k → updN d k (d a + 1) p = d p := fun p hp => by simp [updN, hp]
  have new : updN d k (d a + 1) k = d a + 1 := by simp [updN]
  have hqk : ∀ q ∈ Q, q ≠ k := fun q hq e => by have := h.qd q hq; rw [e] at this; omega
  have htk : t ≠ k := fun e => by have := h.top; rw [e] at this; omega
  refine ⟨⟨by rw [old t htk]; exact h.top, fun p => ?_, fun p hp => ?_, fun q hq => ?_, fun q hq p hp => ?_, ?_, by rw [old a hka]; exact h.ad, fun p hp => ?_, fun q hq => ?_, fun q hq hn hne p hAp => ?_, fun p hp hAp => ?_, fun p hp hne => ?_, fun p hp => ?_⟩, hu⟩
  · by_cases e : p = k
    · subst e; rw [new]; omega
    · rw [old p e]; exact h.le p
  · by_cases e : p = k
    · subst e; exact ⟨h1, h2⟩
    · rw [old p e] at hp; exact h.ins p hp
  · rcases List.mem_append.1 hq with hq | hq
    · rw [old q (hqk q hq)]; exact h.qd q hq
    · obtain rfl : q = k := by simpa using hq
      rw [new]; omega
  · have hp' : updN d k (d a + 1) p ≤ d a + 1 := by
      by_cases e : p = k
      · subst e; rw [new]; omega
      · rw [old p e] at hp ⊢; exact h.nearA p hp
    rcases List.mem_append.1 hq with hq | hq
    · rw [old q (hqk q hq)]
      have := h.sortA q hq
      omega
    · obtain rfl : q = k := by simpa using hq
      rw [new]; omega
  · rw [List.pairwise_append]
    refine ⟨?_, List.pairwise_singleton _ _, fun x hx y hy => ?_⟩
    · refine h.sort.imp_of_mem fun hx hy hxy => ?_
      rw [old _ (hqk _ hx), old _ (hqk _ hy)]; exact hxy
    · obtain rfl : y = k := by simpa using hy
      rw [old x (hqk x hx), new]
      exact h.nearA x (h.qd x hx)
  · rw [old a hka]
    by_cases e : p = k
    · subst e; rw [new]; omega
    · rw [old p e] at hp ⊢; exact h.nearA p hp
  · rw [old a hka]
    rcases List.mem_append.1 hq with hq | hq
    · rw [old q (hqk q hq)]; exact h.sortA q hq
    · obtain rfl : q = k := by simpa using hq
      rw [new]; omega
  · have hqk' : q ≠ k := fun e => hn (by simp [e])
    rw [old q hqk'] at hq ⊢
    have := h.closed q hq (fun hm => hn (by simp [hm])) hne p hAp
    by_cases e : p = k
    · subst e; rw [hd] at this; omega
    · rw [old p e]; exact this
  · rw [old a hka]
    by_cases e : p = k
    · subst e; rw [new]; omega
    · rw [old p e]; exact h.part p (by omega) hAp
  · by_cases e : p = k
    · subst e
      exact ⟨a, hA, by rw [old a hka, new]⟩
    · rw [old p e] at hp
      obtain ⟨q, hq, he⟩ := h.par p hp hne
      have hqk' : q ≠ k := fun e2 => by rw [e2, hd] at he; have := h.le p; omega
      exact ⟨q, hq, by rw [old q hqk', old p e]; exact he⟩
  · by_cases e : p = k
    · subst e; rw [new]; omega
    · rw [old p e] at hp ⊢
      have := h.cnt p hp
      omega
theorem BfsIn.done (h : BfsIn A t d Q a 17) (hA : ∀ p q, A p q = true → p ≤ 16) : Bfs A t d Q :=
  ⟨h.top, h.le, h.ins, h.qd, h.near, h.sort, fun q hq hn p hAp => (by
    by_cases e : q = a
    · subst e; exact h.part p (by have := hA p q hAp; omega) hAp
    · exact h.closed q hq hn e p hAp), h.par, h.cnt⟩
/-- Distances to t: each is reached over a neighbour one nearer; no neighbour is two nearer. -/
structure IsDist (A : Nat → Nat → Bool) (t : Nat) (d : Nat → Nat) : Prop where
  top : d t = 0
  le : ∀ p, d p ≤ 17
  ins : ∀ p, d p < 17 → 1 ≤ p ∧ p ≤ 16 ∧ d p ≤ 15
  step : ∀ p q, A p q = true → d p ≤ d q + 1
  par : ∀ p, d p < 17 → p ≠ t → ∃ q, A p q = true ∧ d q + 1 = d p
theorem Bfs.dist (h : Bfs A t d []) : IsDist A t d :=
  ⟨h.top, h.le, fun p hp => ⟨(h.ins p hp).1, (h.ins p hp).2, by have := h.cnt p hp; omega⟩, fun p q hA => (by
    by_cases hq : d q < 17
    · exact h.closed q hq (by simp) p hA
    · have := h.le p; omega), h.par⟩
/-- There is one such table alone. -/
theorem IsDist.eq {d e : Nat → Nat} (h : IsDist A t d) (g : IsDist A t e) : ∀ p, d p = e p := by
  have one : ∀ {d e : Nat → Nat}, IsDist A t d → IsDist A t e → ∀ n p, e p = n → n < 17 → d p ≤ n := by
    intro d e h g n
    induction n with
    | zero =>
      intro p hp _
      by_cases e1 : p = t
      · subst e1; rw [h.top]; omega
      · obtain ⟨q, _, hq⟩ := g.par p (by omega) e1
        omega
    | succ n ih =>
      intro p hp hn
      by_cases e1 : p = t
      · subst e1; rw [h.top]; omega
      · obtain ⟨q, hA, hq⟩ := g.par p (by omega) e1
        have := ih q (by omega) (by omega)
        have := h.step p q hA
        omega
  intro p
  have h1 := h.le p
  have h2 := g.le p
  by_cases hd : d p < 17
  · have a1 := one g h (d p) p rfl hd
    by_cases he : e p < 17
    · have := one h g (e p) p rfl he; omega
    · omega
  · by_cases he : e p < 17
    · have := one h g (e p) p rfl he; omega
    · omega
end
end Go.Proofs.Ytglehneaphigdaa
