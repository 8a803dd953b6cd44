/- Part 6 of what several laws stand on: Flow1, Flow2, Once, Party, Ref07, InRound, Least7, RangeF. -/
import Derived.Test.YtgobnamhdkbbeaaPayGPart5
import Derived.RangeFuncIn
import Derived.RangeFuncRecord
import Derived.OrdersIn
import Derived.TacticsIn
import Derived.RangeFuncOwn
import Derived.RangeFuncLeaves
/- Flows: plain laws of the chapter's route, with no program in sight. -/
namespace Go.Proofs.Ytgobnamhdkbbeaa
open Go.RowKit
set_option linter.unusedSimpArgs false
set_option linter.unusedVariables false
/-- Two parties one behind the other in a list. -/
def prB : List Nat → Nat → Nat → Bool
  | a :: b :: L, x, y => (decide (a = x) && decide (b = y)) || prB (b :: L) x y
  | _, _, _ => false
def mnW (c : Caps) : List Nat → Int → Int
  | a :: b :: L, n => mnW c (b :: L) (min n (c a b))
  | _, n => n
def psW : Caps → List Nat → Int → Caps
  | c, a :: b :: L, m => psW (pushT c a b m) (b :: L) m
  | c, _, _ => c
def flW : List Nat → Int → List Flw
  | a :: b :: L, m => ⟨a, b, m⟩ :: flW (b :: L) m
  | _, _ => []
theorem prB_cons {a b x y : Nat} {L : List Nat} : prB (a :: b :: L) x y = true ↔ (a = x ∧ b = y) ∨ prB (b :: L) x y = true := by
  rw [prB]
  simp
theorem prB_at : ∀ {L : List Nat} {x y : Nat}, prB L x y = true → ∃ i, L[i]? = some x ∧ L[i + 1]? = some y
  | [], _, _, h => by simp [prB] at h
  | [_], _, _, h => by simp [prB] at h
  | a :: b :: L, x, y, h => by
    rcases prB_cons.1 h with ⟨rfl, rfl⟩ | h
    · exact ⟨0, rfl, rfl⟩
    · obtain ⟨i, h1, h2⟩ := prB_at h
      exact ⟨i + 1, by simpa using h1, by simpa using h2⟩
theorem mnW_le (c : Caps) : ∀ (L : List Nat) (n : Int), mnW c L n ≤ n
  | [], n => by simp [mnW]
  | [_], n => by simp [mnW]
  | a :: b :: L, n => by
    rw [mnW]
    have := mnW_le c (b :: L) (min n (c a b))
    omega
theorem mnW_fit (c : Caps) : ∀ (L : List Nat) (n : Int) {x y : Nat}, prB L x y = true → mnW c L n ≤ c x y
  | [], _, _, _, h => by simp [prB] at h
  | [_], _, _, _, h => by simp [prB] at h
  | a :: b :: L, n, x, y, h => by
    rw [mnW]
    rcases prB_cons.1 h with ⟨rfl, rfl⟩ | h
    · have := mnW_le c (b :: L) (min n (c a b))
      omega
    · exact mnW_fit c (b :: L) _ h
theorem mnW_pos (c : Caps) : ∀ (L : List Nat) (n : Int), 0 < n → (∀ x y, prB L x y = true → 0 < c x y) → 0 < mnW c L n
  | [], n, h, _ => by simpa [mnW] using h
  | [_], n, h, _ => by simpa [mnW] using h
  | a :: b :: L, n, h, hp => by
    rw [mnW]
    have := hp a b (prB_cons.2 (.inl ⟨rfl, rfl⟩))
    exact mnW_pos c (b :: L) _ (by omega) fun x y h => hp x y (prB_cons.2 (.inr h))
theorem mnW_hit (c : Caps) : ∀ (L : List Nat) (n : Int), mnW c L n = n ∨ ∃ x y, prB L x y = true ∧ c x y = mnW c L n
  | [], n => .inl (by simp [mnW])
  | [_], n => .inl (by simp [mnW])
  | a :: b :: L, n => by
    rw [mnW]
    rcases mnW_hit c (b :: L) (min n (c a b)) with h | ⟨x, y, h1, h2⟩
    · by_cases e : n ≤ c a b
      · exact .inl (by rw [h]; omega)
      · exact .inr ⟨a, b, prB_cons.2 (.inl ⟨rfl, rfl⟩), by rw [h]; omega⟩
    · exact .inr ⟨x, y, prB_cons.2 (.inr h1), h2⟩
theorem flW_len : ∀ (L : List Nat) (m : Int), (flW L m).length = L.length - 1
  | [], m => rfl
  | [_], m => rfl
  | a :: b :: L, m => by rw [flW, List.length_cons, flW_len (b :: L) m]; simp
/-- Each one is one nearer. -/
def Drop1 (d : Nat → Nat) (L : List Nat) : Prop := ∀ x y, prB L x y = true → d y + 1 = d x
theorem Drop1.tail {d : Nat → Nat} {a b : Nat} {L : List Nat} (h : Drop1 d (a :: b :: L)) : d b + 1 = d a ∧ Drop1 d (b :: L) :=
  ⟨h a b (prB_cons.2 (.inl ⟨rfl, rfl⟩)), fun x y hp => h x y (prB_cons.2 (.inr hp))⟩
theorem Drop1.near {d : Nat → Nat} : ∀ {L : List Nat} {b x y : Nat}, Drop1 d (b :: L) → prB (b :: L) x y = true → d x ≤ d b
  | [], _, _, _, _, h => by simp [prB] at h
  | e :: L, b, x, y, hd, h => by
    rcases prB_cons.1 h with ⟨rfl, rfl⟩ | h
    · exact Nat.le_refl _
    · have := hd.tail
      have := Drop1.near this.2 h
      omega
theorem pushT_ok {c : Caps} {a b : Nat} {m : Int} (h1 : 1 ≤ m) (h2 : m ≤ c a b) (hne : a ≠ b) : pushT c a b m = upd2 (upd2 c a b (c a b - m)) b a (c b a + m) := by
  unfold pushT
  rw [if_neg (by omega), pushC_eq hne]
theorem pushT_at {c : Caps} {a b : Nat} {m : Int} (h1 : 1 ≤ m) (h2 : m ≤ c a b) (hne : a ≠ b) (x y : Nat) : pushT c a b m x y = c x y - (if a = x ∧ b = y then m else 0) + (if a = y ∧ b = x then m else 0) := by
  rw [pushT_ok h1 h2 hne]
  unfold upd2
  by_cases e1 : x = b ∧ y = a
  · obtain ⟨rfl, rfl⟩ := e1
    rw [if_pos ⟨rfl, rfl⟩, if_neg (fun e => hne e.1), if_pos ⟨rfl, rfl⟩]
    omega
  · rw [if_neg e1, if_neg (c := a = y ∧ b = x) (fun e => e1 ⟨e.2.symm, e.1.symm⟩)]
    by_cases e2 : x = a ∧ y = b
    · obtain ⟨rfl, rfl⟩ := e2
      rw [if_pos ⟨rfl, rfl⟩, if_pos ⟨rfl, rfl⟩]
      omega
    · rw [if_neg e2, if_neg (fun e => e2 ⟨e.1.symm, e.2.symm⟩)]
      omega
theorem psW_at {d : Nat → Nat} {m : Int} (h1 : 1 ≤ m) : ∀ (L : List Nat) (c : Caps), Drop1 d L → (∀ x y, prB L x y = true → m ≤ c x y) → ∀ x y, psW c L m x y = c x y - (if prB L x y = true then m else 0) + (if prB L y x = true then m else 0)
  | [], c, _, _, x, y => by simp [psW, prB]
  | [_], c, _, _, x, y => by simp [psW, prB]
  | a :: b :: L, c, hd, hf, x, y => by
    have ht := hd.tail
    have hab := hf a b (prB_cons.2 (.inl ⟨rfl, rfl⟩))
    have hne : a ≠ b := fun e => by rw [e] at ht; omega
    have hoff : ∀ u v, prB (b :: L) u v = true → ¬ (a = u ∧ b = v) ∧ ¬ (a = v ∧ b = u) := fun u v hp => by
      have h3 := Drop1.near ht.2 hp
      have h4 := ht.2 u v hp
      refine ⟨fun e => ?_, fun e => ?_⟩
      · rw [← e.1] at h3; omega
      · rw [← e.1, ← e.2] at h4; omega
    rw [psW, psW_at h1 (b :: L) _ ht.2 (fun u v hp => by
      rw [pushT_at h1 hab hne, if_neg (hoff u v hp).1, if_neg (hoff u v hp).2]
      have := hf u v (prB_cons.2 (.inr hp))
      omega), pushT_at h1 hab hne]
    have k1 : (if prB (a :: b :: L) x y = true then m else 0) = (if a = x ∧ b = y then m else 0) + (if prB (b :: L) x y = true then m else 0) := by
      by_cases e : prB (b :: L) x y = true
      · rw [if_pos (prB_cons.2 (.inr e)), if_neg (hoff x y e).1, if_pos e]; omega
      · by_cases e2 : a = x ∧ b = y
        · rw [if_pos (prB_cons.2 (.inl e2)), if_pos e2, if_neg e]; omega
        · rw [if_neg (fun h => (prB_cons.1 h).elim e2 e), if_neg e2, if_neg e]; omega
    have k2 : (if prB (a :: b :: L) y x = true then m else 0) = (if a = y ∧ b = x then m else 0) + (if prB (b :: L) y x = true then m else 0) := by
      by_cases e : prB (b :: L) y x = true
      · rw [if_pos (prB_cons.2 (.inr e)), if_neg (hoff y x e).1, if_pos e]; omega
      · by_cases e2 : a = y ∧ b = x
        · rw [if_pos (prB_cons.2 (.inl e2)), if_pos e2, if_neg e]; omega
        · rw [if_neg (fun h => (prB_cons.1 h).elim e2 e), if_neg e2, if_neg e]; omega
    rw [k1, k2]
    omega
theorem psW_play : ∀ (L : List Nat) (c : Caps) (m : Int), PlayC c → PlayC (psW c L m)
  | [], c, m, h => h
  | [_], c, m, h => h
  | a :: b :: L, c, m, h => psW_play (b :: L) _ m (h.push a b m)
/-- A shortest way that is found, in pairs. -/
structure WayP (c : Caps) (f t : Nat) (d : Nat → Nat) (L : List Nat) : Prop where
  dist : IsDist (edge c) t d
  fin : d f < 17
  drop : Drop1 d L
  cap : ∀ x y, prB L x y = true → 0 < c x y
  rng : ∀ x ∈ L, 1 ≤ x ∧ x ≤ 16
  len : L.length = d f + 1
  head : ∃ M, L = f :: M
  last : L[L.length - 1]? = some t
  ne : f ≠ t
theorem IsShort.way {c : Caps} {f t : Nat} {L : List Nat} (hg : GoodC c) (h : IsShort c f t L) (hL : L ≠ []) : ∃ d, WayP c f t d L := by
  rcases h with ⟨e, _⟩ | ⟨hf, ht, hne, d, hd, hlt, hw⟩
  · exact absurd e hL
  · refine ⟨d, hd, hlt, fun x y hp => ?_, fun x y hp => ?_, fun x hx => ?_, hw.len, ?_, hw.last, hne⟩
    · obtain ⟨i, h1, h2⟩ := prB_at hp
      exact (hw.steps i x y h1 h2).good.1
    · obtain ⟨i, h1, h2⟩ := prB_at hp
      have := (hw.steps i x y h1 h2).good.2
      unfold edge at this
      rw [hg.capOf] at this
      simpa using this
    · obtain ⟨i, hi⟩ := List.mem_iff_getElem?.1 hx
      rcases Nat.eq_zero_or_pos i with rfl | hpos
      · rw [hw.head] at hi
        cases hi
        have := mayP_true hf
        exact ⟨this.1, this.2⟩
      · have hlt2 : i < L.length := by
          apply Classical.byContradiction
          intro hn
          rw [List.getElem?_eq_none (by omega)] at hi
          cases hi
        have h1 : L[i - 1]? = some (L[i - 1]'(by omega)) := List.getElem?_eq_getElem _
        have hs := hw.steps (i - 1) _ x h1 (by rw [show i - 1 + 1 = i by omega]; exact hi)
        exact ⟨hs.ge, hs.le⟩
    · cases L with
      | nil => exact absurd rfl hL
      | cons x M =>
        have := hw.head
        simp at this
        exact ⟨M, by rw [this]⟩
/-- The rounds of a route: behind k of them these capacities, so much still wanted, these pushes. -/
inductive Tr (f t : Nat) (c0 : Caps) (n0 : Int) : Nat → Caps → Int → List Flw → Prop
  | nil : Tr f t c0 n0 0 c0 n0 []
  | snoc {k : Nat} {c : Caps} {n : Int} {P : List Flw} {L : List Nat} : Tr f t c0 n0 k c n P → 0 < n → IsShort c f t L → L ≠ [] → Tr f t c0 n0 (k + 1) (psW c L (mnW c L n)) (n - mnW c L n) (P ++ flW L (mnW c L n))
section
variable {f t : Nat} {c0 : Caps} {n0 : Int}
theorem Tr.det : ∀ (k : Nat) {c c' : Caps} {n n' : Int} {P P' : List Flw}, Tr f t c0 n0 k c n P → Tr f t c0 n0 k c' n' P' → c = c' ∧ n = n' ∧ P = P'
  | 0, _, _, _, _, _, _, .nil, .nil => ⟨rfl, rfl, rfl⟩
  | k + 1, _, _, _, _, _, _, .snoc h1 _ s1 _, .snoc h2 _ s2 _ => by
    obtain ⟨rfl, rfl, rfl⟩ := Tr.det k h1 h2
    obtain rfl := s1.eq s2
    exact ⟨rfl, rfl, rfl⟩
theorem Tr.pre {k' : Nat} {c' : Caps} {n' : Int} {P' : List Flw} (h : Tr f t c0 n0 k' c' n' P') : ∀ k, k < k' → ∃ c n P L, Tr f t c0 n0 k c n P ∧ 0 < n ∧ IsShort c f t L ∧ L ≠ [] := by
  induction h with
  | nil => intro k hk; omega
  | @snoc k0 c n P L h h1 h2 h3 ih =>
    intro k hk
    by_cases e : k = k0
    · subst e; exact ⟨c, n, P, L, h, h1, h2, h3⟩
    · exact ih k (by omega)
theorem Tr.fin {k k' : Nat} {c c' : Caps} {n n' : Int} {P P' : List Flw} (h : Tr f t c0 n0 k c n P) (e : n ≤ 0 ∨ IsShort c f t []) (h' : Tr f t c0 n0 k' c' n' P') (e' : n' ≤ 0 ∨ IsShort c' f t []) : c = c' ∧ n = n' ∧ P = P' := by
  have key : ∀ {k k' : Nat} {c c' : Caps} {n n' : Int} {P P' : List Flw}, Tr f t c0 n0 k c n P → (n ≤ 0 ∨ IsShort c f t []) → Tr f t c0 n0 k' c' n' P' → ¬ k < k' := by
    intro k k' c c' n n' P P' h e h' hlt
    obtain ⟨c2, n2, P2, L, h2, hp, hs, hL⟩ := h'.pre k hlt
    obtain ⟨rfl, rfl, rfl⟩ := Tr.det k h h2
    rcases e with e | e
    · omega
    · exact hL (hs.eq e)
  have h1 := key h e h'
  have h2 := key h' e' h
  obtain rfl : k = k' := by omega
  exact Tr.det k h h'
theorem Tr.play (h0 : PlayC c0) {k : Nat} {c : Caps} {n : Int} {P : List Flw} (h : Tr f t c0 n0 k c n P) : PlayC c := by
  induction h with
  | nil => exact h0
  | snoc _ _ _ _ ih => exact psW_play _ _ _ ih
theorem Tr.le (h0 : PlayC c0) (hn0 : 0 ≤ n0) {k : Nat} {c : Caps} {n : Int} {P : List Flw} (h : Tr f t c0 n0 k c n P) : 0 ≤ n ∧ n ≤ n0 := by
  induction h with
  | nil => exact ⟨hn0, Int.le_refl _⟩
  | @snoc k c n P L h h1 h2 h3 ih =>
    have hp := h.play h0
    obtain ⟨d, hw⟩ := h2.way hp.good h3
    have := mnW_pos c L n h1 hw.cap
    have := mnW_le c L n
    omega
theorem Tr.top {k : Nat} {c : Caps} {n : Int} {P : List Flw} (h0 : PlayC c0) (h : Tr f t c0 n0 k c n P) : n ≤ n0 := by
  induction h with
  | nil => exact Int.le_refl _
  | @snoc k c n P L h h1 h2 h3 ih =>
    have hp := h.play h0
    obtain ⟨d, hw⟩ := h2.way hp.good h3
    have := mnW_pos c L n h1 hw.cap
    omega
end
end Go.Proofs.Ytgobnamhdkbbeaa

/- Flows: how many rounds there are at most. -/
namespace Go.Proofs.Ytgobnamhdkbbeaa
open Go.RowKit
set_option linter.unusedSimpArgs false
set_option linter.unusedVariables false
/-- All pairs of parties. -/
def prsC : List (Nat × Nat) := (List.range 17).flatMap fun a => (List.range 17).map fun b => (a, b)
theorem prsC_mem {a b : Nat} (ha : a < 17) (hb : b < 17) : (a, b) ∈ prsC := by
  unfold prsC
  rw [List.mem_flatMap]
  exact ⟨a, by simpa using ha, by simp [hb]⟩
theorem prsC_len : prsC.length = 289 := by decide +kernel
def tightB (c : Caps) (d : Nat → Nat) (p : Nat × Nat) : Bool := decide (0 < c p.1 p.2) && decide (d p.1 = d p.2 + 1)
def tight (c : Caps) (d : Nat → Nat) : Nat := prsC.countP (tightB c d)
theorem tight_le (c : Caps) (d : Nat → Nat) : tight c d ≤ 289 := by
  rw [← prsC_len]; exact List.countP_le_length
theorem countP_lt {α : Type} {p q : α → Bool} : ∀ {l : List α}, (∀ x ∈ l, p x = true → q x = true) → (∃ x ∈ l, q x = true ∧ p x = false) → l.countP p < l.countP q
  | [], _, h => by obtain ⟨x, hx, _⟩ := h; cases hx
  | y :: l, hm, h => by
    rw [List.countP_cons, List.countP_cons]
    have hle : l.countP p ≤ l.countP q := List.countP_mono_left fun x hx => hm x (List.mem_cons_of_mem _ hx)
    obtain ⟨x, hx, hq, hp⟩ := h
    rcases List.mem_cons.1 hx with rfl | hx
    · rw [hq, hp]; simp; omega
    · have := countP_lt (fun z hz => hm z (List.mem_cons_of_mem _ hz)) ⟨x, hx, hq, hp⟩
      have h2 := hm y List.mem_cons_self
      by_cases e : p y = true
      · rw [if_pos e, if_pos (h2 e)]; omega
      · rw [if_neg e]; split <;> omega
/-- A label that each edge lets fall by one at most; so many rounds are left. -/
def Pot (f t : Nat) (c : Caps) (N : Nat) : Prop := ∃ (d : Nat → Nat) (u : Nat), d t = 0 ∧ d f + u = 17 ∧ (∀ a b, 0 < c a b → d a ≤ d b + 1) ∧ u * 300 + tight c d ≤ N
theorem Pot.start (f t : Nat) (c : Caps) : Pot f t c 5389 := ⟨fun _ => 0, 17, rfl, rfl, fun _ _ _ => Nat.zero_le _, by have := tight_le c fun _ => 0; omega⟩
theorem IsDist.low {c : Caps} {t : Nat} {d e : Nat → Nat} (hg : GoodC c) (h : IsDist (edge c) t e) (ht : d t = 0) (hv : ∀ a b, 0 < c a b → d a ≤ d b + 1) : ∀ n p, e p = n → n < 17 → d p ≤ n := by
  intro n
  induction n with
  | zero =>
    intro p hp _
    rw [h.zero hp, ht]
    omega
  | succ n ih =>
    intro p hp hn
    by_cases e1 : p = t
    · subst e1; omega
    · obtain ⟨q, hA, hq⟩ := h.par p (by omega) e1
      unfold edge at hA
      rw [hg.capOf] at hA
      have := hv p q (by simpa using hA)
      have := ih q (by omega) (by omega)
      omega
theorem tight_way {c : Caps} {d e : Nat → Nat} (hv : ∀ a b, 0 < c a b → d a ≤ d b + 1) (hlow : ∀ p, e p < 17 → d p ≤ e p) : ∀ (L : List Nat) (a : Nat), Drop1 e (a :: L) → (∀ x y, prB (a :: L) x y = true → 0 < c x y) → e a < 17 → d a = e a → ∀ x y, prB (a :: L) x y = true → d x = e x ∧ d y = e y
  | [], _, _, _, _, _, _, _, h => by simp [prB] at h
  | b :: L, a, hd, hc, hlt, ha, x, y, h => by
    have ht := hd.tail
    have h1 := hv a b (hc a b (prB_cons.2 (.inl ⟨rfl, rfl⟩)))
    have h2 := hlow b (by omega)
    have hb : d b = e b := by omega
    rcases prB_cons.1 h with ⟨rfl, rfl⟩ | h
    · exact ⟨ha, hb⟩
    · exact tight_way hv hlow L b ht.2 (fun x y hp => hc x y (prB_cons.2 (.inr hp))) (by omega) hb x y h
/-- A push along a way, tight in d, of all that goes: d stays a label; one tight pair goes. -/
theorem push_label {c : Caps} {d : Nat → Nat} {L : List Nat} {m : Int} (h1 : 1 ≤ m) (hv : ∀ a b, 0 < c a b → d a ≤ d b + 1) (hd : Drop1 d L) (hf : ∀ x y, prB L x y = true → m ≤ c x y) : ∀ a b, 0 < psW c L m a b → d a ≤ d b + 1 := by
  intro a b h
  rw [psW_at h1 L c hd hf] at h
  by_cases e : prB L b a = true
  · have := hd b a e
    omega
  · rw [if_neg e] at h
    have : 0 < c a b := by split at h <;> omega
    exact hv a b this
theorem push_tight {c : Caps} {d : Nat → Nat} {L : List Nat} {m : Int} (h1 : 1 ≤ m) (hd : Drop1 d L) (hf : ∀ x y, prB L x y = true → m ≤ c x y) {x0 y0 : Nat} (h0 : prB L x0 y0 = true) (he : c x0 y0 = m) (hx : x0 < 17) (hy : y0 < 17) : tight (psW c L m) d < tight c d := by
  refine countP_lt ?_ ⟨(x0, y0), prsC_mem hx hy, ?_, ?_⟩
  · rintro ⟨a, b⟩ _ h
    unfold tightB at h ⊢
    simp only [Bool.and_eq_true, decide_eq_true_eq] at h ⊢
    refine ⟨?_, h.2⟩
    have h3 := h.1
    rw [psW_at h1 L c hd hf] at h3
    have e : ¬ prB L b a = true := fun e => by have := hd b a e; omega
    rw [if_neg e] at h3
    split at h3 <;> omega
  · unfold tightB
    have := hd x0 y0 h0
    simp only [Bool.and_eq_true, decide_eq_true_eq]
    exact ⟨by omega, by omega⟩
  · unfold tightB
    have e : ¬ prB L y0 x0 = true := fun e => by have := hd y0 x0 e; have := hd x0 y0 h0; omega
    have : ¬ 0 < psW c L m x0 y0 := by
      rw [psW_at h1 L c hd hf, if_pos h0, if_neg e, he]
      omega
    simp [this]
theorem prB_mem : ∀ {L : List Nat} {x y : Nat}, prB L x y = true → x ∈ L ∧ y ∈ L
  | [], _, _, h => by simp [prB] at h
  | [_], _, _, h => by simp [prB] at h
  | a :: b :: L, x, y, h => by
    rcases prB_cons.1 h with ⟨rfl, rfl⟩ | h
    · exact ⟨List.mem_cons_self, List.mem_cons_of_mem _ List.mem_cons_self⟩
    · have := prB_mem h
      exact ⟨List.mem_cons_of_mem _ this.1, List.mem_cons_of_mem _ this.2⟩
/-- A round that does not end the route takes one of the rounds that are left. -/
theorem Pot.round {f t : Nat} {c : Caps} {N : Nat} {L : List Nat} {n : Int} (h : Pot f t c N) (hp : PlayC c) (hn : 0 < n) (hs : IsShort c f t L) (hL : L ≠ []) (hm : mnW c L n < n) : ∃ M, M + 1 ≤ N ∧ Pot f t (psW c L (mnW c L n)) M := by
  obtain ⟨d, u, ht, hdf, hv, hN⟩ := h
  obtain ⟨e, hw⟩ := hs.way hp.good hL
  have hpos := mnW_pos c L n hn hw.cap
  have hfit := fun x y => mnW_fit c L n (x := x) (y := y)
  obtain ⟨x0, y0, h0, he⟩ : ∃ x y, prB L x y = true ∧ c x y = mnW c L n := by
    rcases mnW_hit c L n with h | h
    · omega
    · exact h
  have hlow := fun p hp2 => IsDist.low hp.good hw.dist ht hv (e p) p rfl hp2
  have hx0 := hw.rng x0 (prB_mem h0).1
  have hy0 := hw.rng y0 (prB_mem h0).2
  have hfin := hw.fin
  have hdf2 := hlow f hfin
  generalize mnW c L n = m at *
  by_cases heq : d f = e f
  · obtain ⟨Lt, rfl⟩ := hw.head
    have htw := tight_way hv hlow Lt f hw.drop hw.cap hfin heq
    have hd : Drop1 d (f :: Lt) := fun x y hp2 => by
      have h1 := htw x y hp2
      have h2 := hw.drop x y hp2
      omega
    have hlt := push_tight (show 1 ≤ m by omega) hd hfit h0 he (by omega) (by omega)
    refine ⟨N - 1, by omega, d, u, ht, hdf, push_label (show 1 ≤ m by omega) hv hd hfit, by omega⟩
  · have hv2 : ∀ a b, 0 < c a b → e a ≤ e b + 1 := fun a b h => hw.dist.step a b (by unfold edge; rw [hp.good.capOf]; simpa using h)
    have hle := tight_le (psW c L m) e
    obtain ⟨v, hv3⟩ : ∃ v, e f + v = 17 := ⟨17 - e f, by omega⟩
    generalize ht1 : tight (psW c L m) e = T1 at hle
    generalize tight c d = T2 at hN
    have h5 : v + 1 ≤ u := by omega
    have h8 : v * 300 + T1 ≤ N - 1 ∧ N - 1 + 1 ≤ N := by
      clear ht1 hv hv2 hfit he h0 hlow hx0 hy0 hs hw hpos hm hn hv3 hdf hdf2 hfin heq
      omega
    have h9 := push_label (show 1 ≤ m by omega) hv2 hw.drop hfit
    exact ⟨N - 1, h8.2, e, v, hw.dist.top, hv3, h9, by rw [ht1]; exact h8.1⟩
theorem Tr.pot {f t : Nat} {c0 : Caps} {n0 : Int} (h0 : PlayC c0) {k : Nat} {c : Caps} {n : Int} {P : List Flw} (h : Tr f t c0 n0 k c n P) : (0 < n → ∃ N, N + k ≤ 5389 ∧ Pot f t c N) ∧ k ≤ 5390 ∧ P.length ≤ 16 * k := by
  induction h with
  | nil => exact ⟨fun _ => ⟨5389, by omega, Pot.start f t c0⟩, by omega, by simp⟩
  | @snoc k c n P L h h1 h2 h3 ih =>
    obtain ⟨N, hN, hpot⟩ := ih.1 h1
    have hp := h.play h0
    have hle := h2.le
    obtain ⟨N, hN, hpot⟩ := ih.1 h1
    refine ⟨fun hpos => ?_, by omega, ?_⟩
    · obtain ⟨M, hM, hq⟩ := hpot.round hp h1 h2 h3 (by omega)
      exact ⟨M, by omega, hq⟩
    · rw [List.length_append, flW_len]
      omega
end Go.Proofs.Ytgobnamhdkbbeaa

/- paths.search: once through all edges. -/
namespace Go.Proofs.Ytgobnamhdkbbeaa
open Go.RowKit
set_option linter.unusedSimpArgs false
set_option linter.unusedVariables false
/-- An edge with a cost. -/
structure Edg where
  f : Nat
  t : Nat
  c : Int
def edgV (x : Edg) : List Value := [.int .u8 (x.f : Int), .int .u8 (x.t : Int), .int .i8 x.c]
def edgL (F : List Edg) : List Value := F.flatMap edgV
theorem edgL_len (F : List Edg) : (edgL F).length = F.length * 3 := by
  induction F with
  | nil => rfl
  | cons x F ih => simp only [edgL, List.flatMap_cons, List.length_append] at *; rw [ih]; simp [edgV, Nat.add_mul]; omega
theorem edgL_at (F : List Edg) (i : Nat) (h : i < F.length) : ((edgL F).drop (i * 3)).take 3 = edgV F[i] := by
  induction F generalizing i with
  | nil => simp at h
  | cons x F ih =>
    rcases i with _ | i
    · simp [edgL, edgV]
    · have : (i + 1) * 3 = 3 + i * 3 := by omega
      rw [this, ← List.drop_drop]
      simp only [List.length_cons] at h
      have := ih i (by omega)
      simpa [edgL, edgV] using this
theorem edgL_app (F G : List Edg) : edgL (F ++ G) = edgL F ++ edgL G := by simp [edgL]
/-- Such as can be. -/
def EdgOk (x : Edg) : Prop := x.f ≤ 255 ∧ x.t ≤ 255 ∧ -128 ≤ x.c ∧ x.c ≤ 127
def edg (f : Int) (t : Int) (c : Int) : Array Value := #[.int .u8 f, .int .u8 t, .int .i8 c]
section
variable (f : Int) (t : Int) (c : Int)
theorem edg_sz : (edg f t c).size = 3 := rfl
theorem edg_g0 : (edg f t c)[0]? = some (.int .u8 f) := rfl
theorem edg_s0 (v : Int) : (edg f t c).setIfInBounds 0 (.int .u8 v) = edg v t c := rfl
theorem edg_g1 : (edg f t c)[1]? = some (.int .u8 t) := rfl
theorem edg_s1 (v : Int) : (edg f t c).setIfInBounds 1 (.int .u8 v) = edg f v c := rfl
theorem edg_g2 : (edg f t c)[2]? = some (.int .i8 c) := rfl
theorem edg_s2 (v : Int) : (edg f t c).setIfInBounds 2 (.int .i8 v) = edg f t v := rfl
end
theorem edg_all (f t c : Int) : (edg f t c).extract 0 (0 + 3) = edg f t c := by simp [edg]
theorem edg_cells (f t c : Int) : Cells 3 (edg f t c) := ⟨rfl, by simp [edg, Value.oneCell']⟩
theorem edg_splice (a b d f t c : Int) : splice (edg a b d) 0 (edg f t c) = edg f t c := splice_all rfl
theorem row_edg : RowTy 194 3 (edg 0 0 0) := ⟨⟨_, Try.underlying194, rfl⟩, by kernel_rfl, by kernel_rfl⟩
theorem cell_i8 : CellTy 192 := ⟨⟨_, Try.underlying192, rfl⟩, by kernel_rfl⟩
/-- A search's cells: distances, and who is ahead. -/
def sr (D : Nat → Int) (P : Nat → Nat) : Array Value := tab 34 fun i => if i < 17 then .int .i64 (D i) else .int .u8 (P (i - 17) : Int)
theorem sr_sz (D : Nat → Int) (P : Nat → Nat) : (sr D P).size = 34 := tab_size ..
theorem sr_getD (D : Nat → Int) (P : Nat → Nat) {i : Nat} (h : i < 17) : (sr D P)[i]? = some (.int .i64 (D i)) := by
  unfold sr
  rw [tab_get _ (by omega), if_pos h]
theorem sr_getP (D : Nat → Int) (P : Nat → Nat) {i : Nat} (h : i < 17) : (sr D P)[17 + i]? = some (.int .u8 (P i : Int)) := by
  unfold sr
  rw [tab_get _ (by omega), if_neg (by omega), Nat.add_sub_cancel_left]
theorem sr_setD (D : Nat → Int) (P : Nat → Nat) {i : Nat} (h : i < 17) (v : Int) : (sr D P).setIfInBounds i (.int .i64 v) = sr (updN D i v) P := by
  unfold sr
  rw [tab_set _ _ (by omega)]
  apply tab_congr
  intro j hj
  unfold updN
  by_cases e : j = i
  · subst e; rw [if_pos rfl, if_pos h, if_pos rfl]
  · rw [if_neg e]
    by_cases e2 : j < 17
    · rw [if_pos e2, if_pos e2, if_neg e]
    · rw [if_neg e2, if_neg e2]
theorem sr_setP (D : Nat → Int) (P : Nat → Nat) {i : Nat} (h : i < 17) (v : Nat) : (sr D P).setIfInBounds (17 + i) (.int .u8 (v : Int)) = sr D (updN P i v) := by
  unfold sr
  rw [tab_set _ _ (by omega)]
  apply tab_congr
  intro j hj
  unfold updN
  by_cases e : j = 17 + i
  · subst e; rw [if_pos rfl, if_neg (by omega), if_pos (by omega)]
  · rw [if_neg e]
    by_cases e2 : j < 17
    · rw [if_pos e2, if_pos e2]
    · rw [if_neg e2, if_neg e2, if_neg (by omega)]
/-- What is known amid a search. -/
structure Srch where
  D : Nat → Int
  P : Nat → Nat
  last : Nat
def relax (s : Srch) (e : Edg) : Srch := if s.D e.f + e.c < s.D e.t then ⟨updN s.D e.t (s.D e.f + e.c), updN s.P e.t e.f, e.t⟩ else s
def onceS (F : List Edg) (s : Srch) : Srch := F.foldl relax ⟨s.D, s.P, 0⟩
theorem relax_yes {s : Srch} {e : Edg} (h : s.D e.f + e.c < s.D e.t) : relax s e = ⟨updN s.D e.t (s.D e.f + e.c), updN s.P e.t e.f, e.t⟩ := if_pos h
theorem relax_no {s : Srch} {e : Edg} (h : ¬ s.D e.f + e.c < s.D e.t) : relax s e = s := if_neg h
/-- Distances within a bound. -/
def Bnd (B : Nat) (s : Srch) : Prop := ∀ i, -(B : Int) ≤ s.D i ∧ s.D i ≤ 0
theorem Bnd.relax {B : Nat} {s : Srch} {e : Edg} (h : Bnd B s) (hc : -128 ≤ e.c) : Bnd (B + 128) (relax s e) := by
  intro i
  unfold Proofs.Ytgobnamhdkbbeaa.relax
  have hi := h i
  have hf := h e.f
  have ht := h e.t
  split
  · simp only [updN]
    split
    · omega
    · omega
  · omega
def OnceLoop (W : World) (l : List Thing) (p : Nat) (F : List Edg) (s0 : Srch) (B en : Nat) (v i : Value) (wr : World) : Prop :=
  ∃ (k : Nat) (s : Srch), k ≤ en ∧ i = .int .i64 k ∧ v = .int .u8 (s.last : Int) ∧ onceS F s0 = (F.drop k).foldl relax s ∧ Bnd (B + 128 * k) s ∧ Heap W (Cel p (sr s.D s.P) 199 :: l) wr
section
variable {W w : World} {l : List Thing}
set_option maxRecDepth 100000
set_option maxHeartbeats 4000000
theorem once_H (p : Nat) (ea : Option Addr) (en ec : Nat) (F : List Edg) (hl : F.length = en) (hF : ∀ x ∈ F, x.f < 17 ∧ x.t < 17 ∧ -128 ≤ x.c ∧ x.c ≤ 127) (R : ∀ w', Heap W l w' → Rd w' ea (edgL F)) (s0 : Srch) (B : Nat) (hB : Bnd B s0) (hBn : B + 128 * en ≤ 1000000000000)
    (H : Heap W (Cel p (sr s0.D s0.P) 199 :: l) w) :
    Calls Try.prog 137 #[.pointer (some ⟨p, 0, none⟩), .slice ea en ec] w fun e w' => e = .returned (.int .u8 ((onceS F s0).last : Int)) ∧ Heap W (Cel p (sr (onceS F s0).D (onceS F s0).P) 199 :: l) w' := by
  have HL := Lib.hid hl
  have HF := Lib.hid hF
  have HR := Lib.hid R
  have HB := Lib.hid hB
  clear hl hF R hB
  go_enter Try.func137, Try.ntmps137
  go_wp2_with (go_skip)
  have H0 := H
  clear H
  go_loopw [5, 11] (fun v i wr => OnceLoop W l p F s0 B en v i wr) (fun _ i _ => en - (intOf i).toNat)
  case atStart => exact ⟨0, ⟨s0.D, s0.P, 0⟩, Nat.zero_le _, rfl, rfl, rfl, HB.out, H0⟩
  case round =>
    obtain ⟨k, s, hk, rfl, rfl, hG, hb, H'⟩ := hrel
    clear H0
    have H := H'
    clear H'
    by_cases hlt : k < en
    · have hkF : k < F.length := by rw [HL.out]; exact hlt
      have hok := HF.out F[k] (List.getElem_mem hkF)
      have hat := edgL_at F k hkF
      have hlen : k * 3 + 3 ≤ (edgL F).length := by rw [edgL_len]; omega
      rw [List.drop_eq_getElem_cons hkF, List.foldl_cons] at hG
      generalize F[k] = x at *
      have hb2 := hb.relax (e := x) hok.2.2.1
      obtain ⟨a, b, n⟩ := x
      obtain ⟨h1, h2, h3, h4⟩ := hok
      simp only at h1 h2 h3 h4
      have hrow : (((edgL F).drop (k * 3)).take 3).toArray = edg a b n := by rw [hat]; rfl
      obtain ⟨eb, eo, rfl, _⟩ := (HR.out _ H.tail).lt (by omega)
      have HG := Lib.hid hG
      have HB2 := Lib.hid hb2
      have hba := hb a
      have hbb := hb b
      clear hG hat hkF hb hb2
      have hw1 : wrap64 n = n := IntWalk.wrap64_in _ ⟨by omega, by omega⟩
      have hw2 : wrap64 (s.D a + n) = s.D a + n := IntWalk.wrap64_in _ ⟨by omega, by omega⟩
      go_wp2_with (first
        | go_skip
        | ((with_reducible show wpList _ _ _ (_ :: _) _ _); (with_reducible apply wpl_loadRdR row_edg); (· rfl); (· rfl); (· exact HR.out _ H.tail); (· rfl); (· exact hlen); (· decide); (· exact hrow); (simp only [Act.put, List.setIfInBounds_toArray, List.set_cons_zero, List.set_cons_succ]))
        | ((with_reducible show wpList _ _ _ (_ :: _) _ _); (with_reducible apply wpl_allocRH row_edg); (· rfl); (· exact H); (clear H; intro px _ H); (simp only [Act.put, List.setIfInBounds_toArray, List.set_cons_zero, List.set_cons_succ]))
        | ((with_reducible show wpList _ _ _ (_ :: _) _ _); (with_reducible apply wpl_storeRH row_edg); (· rfl); (· rfl); (· rfl); (· with_reducible exact edg_cells ..); (· exact H); (· (repeat (first | (with_reducible exact List.mem_cons_self) | with_reducible apply List.mem_cons_of_mem))); (· (simp only [edg_sz, Nat.reduceAdd, Nat.reduceLeDiff, Nat.le_refl]; done)); (· with_reducible exact edg_splice ..); (· (repeat (first | (with_reducible exact Repl.here) | with_reducible apply Repl.there))); (clear H; intro _ H); (simp only [Act.put, List.setIfInBounds_toArray, List.set_cons_zero, List.set_cons_succ])))
      refine wp_region_H H (by kernel_rfl) (by kernel_rfl) ?_
      repeat (first | go_big_quiet_skip | ((with_reducible apply wpQ_loadCH); (· first | exact cell_party | exact cell_i8); (· rfl); (· rfl); (· (repeat (first | (with_reducible exact List.mem_cons_self) | with_reducible apply List.mem_cons_of_mem))); (· (with_reducible first | exact edg_g0 .. | exact edg_g1 .. | exact edg_g2 ..)); (simp only [Act.put, List.setIfInBounds_toArray, List.set_cons_zero, List.set_cons_succ])) | ((with_reducible apply wpQ_loadCH); (· exact cell_int); (· rfl); (· rfl); (· (repeat (first | (with_reducible exact List.mem_cons_self) | with_reducible apply List.mem_cons_of_mem))); (· first | exact sr_getD _ _ h1 | exact sr_getD _ _ h2); (simp only [Act.put, List.setIfInBounds_toArray, List.set_cons_zero, List.set_cons_succ])) | go_big_quiet_step (fail))
      refine wpQuiet_nil ?_
      clear H
      intro _ H
      go_wp2_with (go_skip)
      refine wp_region_H H (by kernel_rfl) (by kernel_rfl) ?_
      repeat (first | go_big_quiet_skip | ((with_reducible apply wpQ_loadCH); (· first | exact cell_party | exact cell_i8); (· rfl); (· rfl); (· (repeat (first | (with_reducible exact List.mem_cons_self) | with_reducible apply List.mem_cons_of_mem))); (· (with_reducible first | exact edg_g0 .. | exact edg_g1 .. | exact edg_g2 ..)); (simp only [Act.put, List.setIfInBounds_toArray, List.set_cons_zero, List.set_cons_succ])) | ((with_reducible apply wpQ_loadCH); (· exact cell_int); (· rfl); (· rfl); (· (repeat (first | (with_reducible exact List.mem_cons_self) | with_reducible apply List.mem_cons_of_mem))); (· first | exact sr_getD _ _ h1 | exact sr_getD _ _ h2); (simp only [Act.put, List.setIfInBounds_toArray, List.set_cons_zero, List.set_cons_succ])) | go_big_quiet_step (fail))
      refine wpQuiet_nil ?_
      clear H
      intro _ H
      by_cases hc : s.D a + n < s.D b
      · have HC := Lib.hid (relax_yes (s := s) (e := ⟨a, b, n⟩) hc)
        go_wp2_with (go_skip)
        replace H := H.perm (.swap _ _ _)
        refine wp_region_O [14, 18] [0, 1, 2, 3, 4, 5, 6, 7, 8, 9, 10, 11, 12, 13, 15, 16, 14, 17, 18, 19] (fun l0 => ∃ pre, l0 = pre ++ (Cel px (edg a b n) 194 :: l)) H ⟨[_], rfl⟩ (by kernel_rfl) (by kernel_rfl) ?_
        iterate 16 (apply wpO_step; (· rfl); (· rfl); (· rfl); (· exact Nat.le_of_ble_eq_true rfl); (· rintro l0 ⟨pre, rfl⟩ w0 H0; (first | go_big_quiet_skip | ((with_reducible apply wpQ_loadCH); (· first | exact cell_party | exact cell_i8); (· rfl); (· rfl); (· ((refine List.mem_append_right _ ?_); (repeat (first | (with_reducible exact List.mem_cons_self) | with_reducible apply List.mem_cons_of_mem)))); (· (with_reducible first | exact edg_g0 .. | exact edg_g1 .. | exact edg_g2 ..)); (simp only [Act.put, List.setIfInBounds_toArray, List.set_cons_zero, List.set_cons_succ])) | go_big_quiet_step (fail)); (refine wpQuiet_nil ?_); (simp only [Array.getD_eq_getD_getElem?, List.getElem?_toArray, List.getElem?_cons_succ, List.getElem?_cons_zero, Option.getD_some]; rfl)); (simp only [Act.put, List.setIfInBounds_toArray, List.set_cons_zero, List.set_cons_succ]))
        ((with_reducible apply wpO_storeI); (· exact cell_int); (· rfl); (· rfl); (· rfl); (· rfl); (· rfl); (· (repeat (first | (with_reducible exact List.mem_cons_self) | with_reducible apply List.mem_cons_of_mem))); (· (rw [sr_sz]; omega)); (· exact sr_setD _ _ h2 _); (· (repeat (first | (with_reducible exact Repl.here) | with_reducible apply Repl.there))); (· exact ⟨[_], rfl⟩); (simp only [Act.put, List.setIfInBounds_toArray, List.set_cons_zero, List.set_cons_succ]))
        (apply wpO_step; (· rfl); (· rfl); (· rfl); (· exact Nat.le_of_ble_eq_true rfl); (· rintro l0 ⟨pre, rfl⟩ w0 H0; (first | go_big_quiet_skip | fail | go_big_quiet_step (fail)); (refine wpQuiet_nil ?_); (simp only [Array.getD_eq_getD_getElem?, List.getElem?_toArray, List.getElem?_cons_succ, List.getElem?_cons_zero, Option.getD_some]; rfl)); (simp only [Act.put, List.setIfInBounds_toArray, List.set_cons_zero, List.set_cons_succ]))
        ((with_reducible apply wpO_storeI); (· exact cell_party); (· rfl); (· rfl); (· rfl); (· rfl); (· rfl); (· (repeat (first | (with_reducible exact List.mem_cons_self) | with_reducible apply List.mem_cons_of_mem))); (· (rw [sr_sz]; omega)); (· exact sr_setP _ _ h2 _); (· (repeat (first | (with_reducible exact Repl.here) | with_reducible apply Repl.there))); (· exact ⟨[_], rfl⟩); (simp only [Act.put, List.setIfInBounds_toArray, List.set_cons_zero, List.set_cons_succ]))
        (apply wpO_step; (· rfl); (· rfl); (· rfl); (· exact Nat.le_of_ble_eq_true rfl); (· rintro l0 ⟨pre, rfl⟩ w0 H0; (first | go_big_quiet_skip | fail | go_big_quiet_step (fail)); (refine wpQuiet_nil ?_); (simp only [Array.getD_eq_getD_getElem?, List.getElem?_toArray, List.getElem?_cons_succ, List.getElem?_cons_zero, Option.getD_some]; rfl)); (simp only [Act.put, List.setIfInBounds_toArray, List.set_cons_zero, List.set_cons_succ]))
        (refine wpO_nil ?_; clear H; intro _ H)
        go_wp2_with (go_skip)
        refine ⟨⟨k + 1, _, by omega, by go_num, ?_, HG.out, ?_, ?_⟩, ?measure⟩
        · rw [HC.out]
        · have := HB2.out
          rw [show B + 128 * (k + 1) = B + 128 * k + 128 by omega]
          exact this
        · rw [HC.out]
          exact H.drop (.there .here)
        case measure => simp [intOf]; omega
      · have HC := Lib.hid (relax_no (s := s) (e := ⟨a, b, n⟩) hc)
        go_wp2_with (go_skip)
        refine ⟨⟨k + 1, _, by omega, by go_num, ?_, HG.out, ?_, ?_⟩, ?measure2⟩
        · rw [HC.out]
        · have := HB2.out
          rw [show B + 128 * (k + 1) = B + 128 * k + 128 by omega]
          exact this
        · rw [HC.out]
          exact H.tail
        case measure2 => simp [intOf]; omega
    · obtain rfl : k = en := by omega
      rw [List.drop_of_length_le (by rw [HL.out]; omega)] at hG
      have HG := Lib.hid hG
      clear hG
      go_wp2_with (go_skip)
      go_ret
      rw [HG.out]
      exact ⟨rfl, H⟩
end
end Go.Proofs.Ytgobnamhdkbbeaa

/- slices' functions of parties: Index, Min. -/
namespace Go.Proofs.Ytgobnamhdkbbeaa
open Go.RowKit
set_option linter.unusedSimpArgs false
set_option linter.unusedVariables false
theorem rd_party {w : World} {g o k x : Nat} {L : List Nat} (R : Rd w (some ⟨g, o, none⟩) (L.map pv)) (h : L[k]? = some x) : w.cell? ⟨g, o + k, none⟩ = some (.int .u8 (x : Int)) := by
  obtain ⟨hk, hx⟩ := List.getElem?_eq_some_iff.1 h
  obtain ⟨b, o', he, hc⟩ := R k (by simpa using hk)
  cases he
  rw [hc]
  simp [pv, hx]
theorem idxOf_le_at {x : Nat} : ∀ {L : List Nat} {k : Nat} (h : k < L.length), L[k] = x → L.idxOf x ≤ k
  | [], _, h, _ => by simp at h
  | y :: L, 0, h, e => by simp at e; subst e; simp
  | y :: L, k + 1, h, e => by
    rw [List.idxOf_cons]
    have := idxOf_le_at (L := L) (k := k) (by simpa using h) (by simpa using e)
    cases y == x <;> simp <;> omega
def minT (L : List Nat) (k : Nat) : Nat := (L.take k).foldl min (L.headD 0)
def minL (L : List Nat) : Nat := L.foldl min (L.headD 0)
theorem minT_succ {L : List Nat} {k x : Nat} (h : L[k]? = some x) : minT L (k + 1) = min (minT L k) x := by
  unfold minT
  rw [List.take_add_one, h]
  simp
theorem minT_all (L : List Nat) {k : Nat} (h : L.length ≤ k) : minT L k = minL L := by
  unfold minT minL
  rw [List.take_of_length_le h]
theorem minT_one {L : List Nat} {x : Nat} (h : L[0]? = some x) : minT L 1 = x := by
  cases L with
  | nil => simp at h
  | cons y L => simp at h; subst h; simp [minT]
theorem minT_le (L : List Nat) (hL : ∀ x ∈ L, x ≤ 255) : ∀ k, minT L k ≤ 255 ∨ L = [] := by
  intro k
  cases L with
  | nil => exact .inr rfl
  | cons y L =>
    left
    have : ∀ (M : List Nat) (a : Nat), a ≤ 255 → M.foldl min a ≤ 255 := by
      intro M
      induction M with
      | nil => intro a h; exact h
      | cons z M ih => intro a h; exact ih _ (Nat.le_trans (Nat.min_le_left _ _) h)
    exact this _ _ (hL y List.mem_cons_self)
section
variable {W w : World} {l : List Thing}
set_option maxRecDepth 100000
set_option maxHeartbeats 2000000
theorem index_H (g o n c : Nat) (L : List Nat) (x : Nat) (hl : L.length = n) (hn : n ≤ 9223372036854775807) (hL : ∀ y ∈ L, y ≤ 255) (hx : x ∈ L) (R : ∀ w', Heap W l w' → Rd w' (some ⟨g, o, none⟩) (L.map pv)) :
    AnsH W l 139 #[.slice (some ⟨g, o, none⟩) n c, .int .u8 (x : Int)] (.int .i64 (L.idxOf x : Int)) := by
  intro w H
  have hi : L.idxOf x < n := by rw [← hl]; exact List.idxOf_lt_length_of_mem hx
  have HR := Lib.hid R
  have HL := Lib.hid hl
  have HLs := Lib.hid hL
  have HX := Lib.hid hx
  clear R hl hL hx
  go_enter Try.func139, Try.ntmps139
  go_wp2_with (go_skip)
  have H0 := H
  clear H
  go_loopw [8] (fun i wr => ∃ k : Nat, k ≤ L.idxOf x ∧ i = .int .i64 k ∧ Heap W l wr) (fun i _ => n - (intOf i).toNat)
  case atStart => exact ⟨0, Nat.zero_le _, rfl, H0⟩
  case round =>
    obtain ⟨k, hk, rfl, H'⟩ := hrel
    clear H0
    have H := H'
    clear H'
    have hkn : k < n := by omega
    have hkL : k < L.length := by rw [HL.out]; exact hkn
    have hg : L[k]? = some L[k] := List.getElem?_eq_getElem hkL
    have hy := HLs.out L[k] (List.getElem_mem hkL)
    by_cases he : k = L.idxOf x
    · have hgx : L[k]? = some x := by
        rw [hg]
        have h1 : L.idxOf x < L.length := by rw [← he]; exact hkL
        have h2 := List.getElem_idxOf h1
        congr 1
        rw [← h2]
        congr 1
      have HE := Lib.hid he
      clear he hg hy
      go_wp2_with (first
        | go_skip
        | ((with_reducible show wpList _ _ _ (_ :: _) _ _); (with_reducible apply wpl_loadCell cell_party); (· rfl); (· rfl); (· exact rd_party (HR.out _ H) hgx); (simp only [Act.put, List.setIfInBounds_toArray, List.set_cons_zero, List.set_cons_succ])))
      go_ret
      rw [HE.out]
      exact ⟨rfl, H⟩
    · have hne : L[k] ≠ x := fun e => by
        have h1 := idxOf_le_at hkL e
        omega
      generalize L[k] = y at *
      have e1 : ((x : Int) == (y : Int)) = false := by simp; omega
      have e2 : decide ((x : Int) = (y : Int)) = false := by simp; omega
      have HE := Lib.hid he
      clear he
      go_wp2_with (first
        | go_skip
        | ((with_reducible show wpList _ _ _ (_ :: _) _ _); (with_reducible apply wpl_loadCell cell_party); (· rfl); (· rfl); (· exact rd_party (HR.out _ H) hg); (simp only [Act.put, List.setIfInBounds_toArray, List.set_cons_zero, List.set_cons_succ])))
      go_roundw
      case rel => exact ⟨k + 1, by have := HE.out; omega, by go_num, H⟩
      case measure => simp [intOf]; omega
theorem min_H (g o n c : Nat) (L : List Nat) (hl : L.length = n) (h1 : 1 ≤ n) (hn : n ≤ 9223372036854775807) (hL : ∀ y ∈ L, y ≤ 255) (R : ∀ w', Heap W l w' → Rd w' (some ⟨g, o, none⟩) (L.map pv)) :
    AnsH W l 140 #[.slice (some ⟨g, o, none⟩) n c] (.int .u8 (minL L : Int)) := by
  intro w H
  have HR := Lib.hid R
  have HL := Lib.hid hl
  have HLs := Lib.hid hL
  have h0 : 0 < L.length := by omega
  have hg0 : L[0]? = some L[0] := List.getElem?_eq_getElem h0
  have HM := Lib.hid (minT_one hg0)
  have hx0 := hL _ (List.getElem_mem h0)
  generalize L[0] = x0 at *
  clear R hl hL h0
  go_enter Try.func140, Try.ntmps140
  go_wp2_with (first
    | go_skip
    | ((with_reducible show wpList _ _ _ (_ :: _) _ _); (with_reducible apply wpl_loadCell cell_party); (· rfl); (· rfl); (· exact rd_party (HR.out _ H) hg0); (simp only [Act.put, List.setIfInBounds_toArray, List.set_cons_zero, List.set_cons_succ])))
  have H0 := H
  clear H
  go_loopw [3, 4] (fun v i wr => ∃ k : Nat, 1 ≤ k ∧ k ≤ n ∧ i = .int .i64 k ∧ v = .int .u8 (minT L k : Int) ∧ Heap W l wr) (fun _ i _ => n - (intOf i).toNat)
  case atStart => exact ⟨1, Nat.le_refl _, h1, rfl, by rw [HM.out], H0⟩
  case round =>
    obtain ⟨k, hk1, hkn, rfl, rfl, H'⟩ := hrel
    clear H0
    have H := H'
    clear H'
    by_cases hlt : k < n
    · have hkL : k < L.length := by rw [HL.out]; exact hlt
      have hg : L[k]? = some L[k] := List.getElem?_eq_getElem hkL
      have hy := HLs.out L[k] (List.getElem_mem hkL)
      have HS := Lib.hid (minT_succ hg)
      generalize L[k] = y at *
      go_wp2_with (first
        | go_skip
        | ((with_reducible show wpList _ _ _ (_ :: _) _ _); (with_reducible apply wpl_loadCell cell_party); (· rfl); (· rfl); (· exact rd_party (HR.out _ H) hg); (simp only [Act.put, List.setIfInBounds_toArray, List.set_cons_zero, List.set_cons_succ])))
      refine ⟨⟨k + 1, by omega, by omega, by go_num, ?_, H⟩, ?measure⟩
      · rw [HS.out]
        by_cases hc : y < minT L k
        · rw [if_pos hc, Nat.min_eq_right (by omega)]
        · rw [if_neg hc, Nat.min_eq_left (by omega)]
      case measure => simp [intOf]; omega
    · obtain rfl : k = n := by omega
      have HA := Lib.hid (minT_all L (k := k) (by rw [HL.out]; omega))
      go_wp2_with (go_skip)
      go_ret
      rw [HA.out]
      exact ⟨rfl, H⟩
end
end Go.Proofs.Ytgobnamhdkbbeaa

/- countinghouseref07.Route: its walk. -/
namespace Go.Proofs.Ytgobnamhdkbbeaa
open Go.RowKit
set_option linter.unusedSimpArgs false
set_option linter.unusedVariables false
theorem drop_two {L : List Nat} {i x y : Nat} (h1 : L[i]? = some x) (h2 : L[i + 1]? = some y) : ∃ M, L.drop i = x :: y :: M ∧ L.drop (i + 1) = y :: M := by
  have a1 : i < L.length := (List.getElem?_eq_some_iff.1 h1).1
  have a2 : i + 1 < L.length := (List.getElem?_eq_some_iff.1 h2).1
  refine ⟨L.drop (i + 1 + 1), ?_, ?_⟩
  · rw [List.drop_eq_getElem_cons a1, List.drop_eq_getElem_cons a2, (List.getElem?_eq_some_iff.1 h1).2, (List.getElem?_eq_some_iff.1 h2).2]
  · rw [List.drop_eq_getElem_cons a2, (List.getElem?_eq_some_iff.1 h2).2]
theorem drop_last {L : List Nat} (h : L ≠ []) : ∃ x, L.drop (L.length - 1) = [x] := by
  have : (L.drop (L.length - 1)).length = 1 := by
    have := List.length_pos_iff.2 h
    rw [List.length_drop]
    omega
  rcases hd : L.drop (L.length - 1) with _ | ⟨x, _ | ⟨y, M⟩⟩
  · rw [hd] at this; simp at this
  · exact ⟨x, rfl⟩
  · rw [hd] at this; simp at this
theorem mnW_end (c : Caps) (x : Nat) (n : Int) : mnW c [x] n = n := rfl
theorem psW_end (c : Caps) (x : Nat) (n : Int) : psW c [x] n = c := rfl
theorem flW_end (x : Nat) (n : Int) : flW [x] n = [] := rfl
/-- What a route answers. -/
def RouteOut (f t : Nat) (c0 : Caps) (want : Int) (P : List Flw) (got : Int) : Prop := ∃ k c n, Tr f t c0 want k c n P ∧ (n ≤ 0 ∨ IsShort c f t []) ∧ got = max want 0 - max n 0
structure RrOut (W : World) (l : List Thing) (q f t : Nat) (c0 : Caps) (want : Int) (v i : Value) (wr : World) : Prop where
  out : ∃ (k : Nat) (c : Caps) (n : Int) (P : List Flw), i = .int .i64 n ∧ Tr f t c0 want k c n P ∧ ∃ a cc, Heap W (FlT v P.length P :: RgT q (.slice a (edgesOf c).length cc) :: FlT (.slice a (edgesOf c).length cc) (edgesOf c).length (edgesOf c) :: l) wr
structure RrMin (W : World) (B : List Thing) (c : Caps) (L : List Nat) (n : Int) (m i : Value) (wr : World) : Prop where
  out : ∃ (k : Nat) (u : Int), i = .int .i64 (k : Int) ∧ 1 ≤ k ∧ k ≤ L.length ∧ m = .int .i64 u ∧ mnW c (L.drop (k - 1)) u = mnW c L n ∧ Heap W B wr
structure RrPush (W : World) (B : List Thing) (q : Nat) (c : Caps) (P : List Flw) (L : List Nat) (m : Int) (v i : Value) (wr : World) : Prop where
  out : ∃ (k : Nat) (c1 : Caps) (P1 : List Flw), i = .int .i64 (k : Int) ∧ 1 ≤ k ∧ k ≤ L.length ∧ PlayC c1 ∧ psW c1 (L.drop (k - 1)) m = psW c L m ∧ P1 ++ flW (L.drop (k - 1)) m = P ++ flW L m ∧ P1.length + 1 ≤ P.length + k ∧ ∃ a cc, Heap W (FlT v P1.length P1 :: RgT q (.slice a (edgesOf c1).length cc) :: FlT (.slice a (edgesOf c1).length cc) (edgesOf c1).length (edgesOf c1) :: B) wr
section
variable {W w : World} {l : List Thing} {q : Nat}
set_option maxRecDepth 100000
set_option maxHeartbeats 4000000
theorem rroute_H (c0 : Caps) (f t : Nat) (want : Int) (hf : f ≤ 255) (ht : t ≤ 255) (h0 : -9223372036854775808 ≤ want) (h1 : want ≤ 9223372036854775807) (hc : PlayC c0) {a : Option Addr} {N cc : Nat} (hN : (edgesOf c0).length = N) (m1 : RgT q (.slice a N cc) ∈ l) (m2 : FlT (.slice a N cc) N (edgesOf c0) ∈ l) (H : Heap W l w) :
    Calls Try.prog 69 #[.pointer (some ⟨q, 0, none⟩), .int .u8 (f : Int), .int .u8 (t : Int), .int .i64 want] w fun e w' => ∃ v P got, e = .returned (.tuple #[v, .int .i64 got]) ∧ RouteOut f t c0 want P got ∧ Heap W (FlT v P.length P :: l) w' := by
  have hle := edges_len c0
  rw [hN] at hle
  have C := rcopy_H (p := q) (edgesOf c0) N a cc hN (by omega) m1 m2 H
  have HC := Lib.hid (And.intro hc hN)
  clear H m1 m2 hc hN
  go_enter Try.func69, Try.ntmps69
  go_wp2_with (go_skip)
  refine C.mono ?_
  clear C
  rintro e w1 ⟨qd, da, dc, rfl, H⟩
  go_wp2_with (go_skip)
  have H0 := H.nilRow 32 3
  clear H
  rw [← HC.out.2] at H0
  go_loopw [11, 12] (fun v i wr => RrOut W l qd f t c0 want v i wr) (fun _ i _ => (intOf i).toNat)
  case atStart => exact ⟨0, c0, want, [], rfl, .nil, da, dc, H0⟩
  case round =>
    obtain ⟨k, c, n, P, rfl, hT, ra, rcc, H⟩ := hrel.out
    clear H0 hrel
    have hpc := hT.play HC.out.1
    have hpot := hT.pot HC.out.1
    have htop := hT.top HC.out.1
    by_cases hpos : 0 < n
    · have g1 : decide (n > 0) = true := by simp; omega
      have g2 : decide (0 < n) = true := by simp; omega
      have hb1 := edges_len c
      have S := rshort_H (W := W) (w := wr) (p := qd) c f t hf ht hpc.good hpc.bnd (a := ra) (cc := rcc) (l := FlT u11 P.length P :: RgT qd (.slice ra (edgesOf c).length rcc) :: FlT (.slice ra (edgesOf c).length rcc) (edgesOf c).length (edgesOf c) :: l) (by (repeat (first | (with_reducible exact List.mem_cons_self) | with_reducible apply List.mem_cons_of_mem))) (by (repeat (first | (with_reducible exact List.mem_cons_self) | with_reducible apply List.mem_cons_of_mem))) H
      obtain ⟨N1, hN1⟩ : ∃ N1, (edgesOf c).length = N1 := ⟨_, rfl⟩
      rw [hN1] at hb1
      have hPl := hpot.2.2
      have hk := hpot.2.1
      obtain ⟨N2, hN2⟩ : ∃ N2, P.length = N2 := ⟨_, rfl⟩
      rw [hN2] at hPl
      simp only [hN1, hN2] at S
      have HT := Lib.hid (And.intro hT (And.intro hpc (And.intro hN1 hN2)))
      clear H hT hpc hpot hN1 hN2
      go_wp2_with (go_skip)
      refine S.mono ?_
      clear S
      rintro e w2 ⟨v2, L, rfl, hs, H⟩
      obtain ⟨ln, hln⟩ : ∃ ln, L.length = ln := ⟨_, rfl⟩
      rw [hln] at H
      obtain ⟨a2, c2, rfl⟩ := OwnT.form0 (H.ok _ List.mem_cons_self)
      by_cases hL : L = []
      · subst hL
        obtain rfl : 0 = ln := hln
        have HS := Lib.hid hs
        clear hs
        go_wp2_with (go_skip)
        all_goals
          go_ret2
          refine ⟨_, P, _, rfl, ⟨k, c, n, HT.out.1, .inr HS.out, by omega⟩, ?_⟩
          rw [HT.out.2.2.2]
          exact (H.tail.drop (.there .here)).drop (.there .here)
      · have hle := hs.le
        obtain ⟨d, hw⟩ := hs.way HT.out.2.1.good hL
        have hl1 : 1 ≤ ln := by rw [← hln]; exact List.length_pos_iff.2 hL
        rw [hln] at hle
        have g3 : ((ln : Int) == 0) = false := by simp; omega
        have hmp := mnW_pos c L n hpos hw.cap
        have hml := mnW_le c L n
        have HL := Lib.hid (And.intro hs (And.intro hL (And.intro hln (And.intro hw hle.2))))
        have hl16 := hle.1
        clear hs hL hln hw hle
        go_wp2_with (go_skip)
        have H0 := H
        clear H
        go_loopw [14, 15] (fun m i wr => RrMin W (OwnT 30 1 (.slice a2 ln c2) ln (L.map pv) :: FlT u11 N2 P :: RgT qd (.slice ra N1 rcc) :: FlT (.slice ra N1 rcc) N1 (edgesOf c) :: l) c L n m i wr) (fun _ i _ => ln - (intOf i).toNat)
        case atStart => exact ⟨1, n, rfl, by omega, by rw [HL.out.2.2.1]; omega, rfl, rfl, H0⟩
        case round =>
          obtain ⟨i, u, rfl, hi1, hi2, rfl, hmn, H'⟩ := hrel.out
          clear H0 hrel
          have H := H'
          clear H'
          rw [HL.out.2.2.1] at hi2
          by_cases hlt : i < ln
          · obtain ⟨j, rfl⟩ : ∃ j, i = j + 1 := ⟨i - 1, by omega⟩
            rw [Nat.add_sub_cancel] at hmn
            have x1 : L[j]? = some (L[j]'(by rw [HL.out.2.2.1]; omega)) := List.getElem?_eq_getElem _
            have x2 : L[j + 1]? = some (L[j + 1]'(by rw [HL.out.2.2.1]; omega)) := List.getElem?_eq_getElem _
            generalize L[j]'(by rw [HL.out.2.2.1]; omega) = x at x1
            generalize L[j + 1]'(by rw [HL.out.2.2.1]; omega) = y at x2
            have hx16 := HL.out.2.2.2.2 x (List.mem_iff_getElem?.2 ⟨_, x1⟩)
            have hy16 := HL.out.2.2.2.2 y (List.mem_iff_getElem?.2 ⟨_, x2⟩)
            obtain ⟨M, e1, e2⟩ := drop_two x1 x2
            rw [e1, mnW] at hmn
            obtain ⟨g, o, c3, e, _, _⟩ := OwnT.form (H.ok _ List.mem_cons_self) (by omega)
            simp only [Value.slice.injEq, true_and] at e
            obtain ⟨rfl, rfl⟩ := e
            have CR := rcap_H (W := W) (l := OwnT 30 1 (.slice (some ⟨g, o, none⟩) ln c2) ln (L.map pv) :: FlT u11 N2 P :: RgT qd (.slice ra N1 rcc) :: FlT (.slice ra N1 rcc) N1 (edgesOf c) :: l) (p := qd) (a := ra) (cc := rcc) x y (by omega) (by omega) (by (repeat (first | (with_reducible exact List.mem_cons_self) | with_reducible apply List.mem_cons_of_mem))) (by (repeat (first | (with_reducible exact List.mem_cons_self) | with_reducible apply List.mem_cons_of_mem))) HT.out.2.2.1 (by omega) (edges_ok HT.out.2.1.bnd)
            rw [HT.out.2.1.good.cap] at CR
            have RX := Lib.hid (show ∀ w', Heap W (OwnT 30 1 (.slice (some ⟨g, o, none⟩) ln c2) ln (L.map pv) :: FlT u11 N2 P :: RgT qd (.slice ra N1 rcc) :: FlT (.slice ra N1 rcc) N1 (edgesOf c) :: l) w' → w'.cell? ⟨g, o + j, none⟩ = some (.int .u8 (x : Int)) ∧ w'.cell? ⟨g, o + (j + 1), none⟩ = some (.int .u8 (y : Int)) from fun w' h => ⟨rd_party (h.ownRd List.mem_cons_self) x1, rd_party (h.ownRd List.mem_cons_self) x2⟩)
            have HE := Lib.hid (And.intro hmn e2)
            clear hmn e1 e2 x1 x2
            go_wp2_with (go_skip)
            refine wp_region_H H (by kernel_rfl) (by kernel_rfl) ?_
            repeat (first | go_big_quiet_skip | (first | ((with_reducible apply wpQ_loadAt); (· exact cell_party); (· rfl); (· rfl); (· first | exact fun w' h => (RX.out w' h).1 | exact fun w' h => (RX.out w' h).2); (simp only [Act.put, List.setIfInBounds_toArray, List.set_cons_zero, List.set_cons_succ]))) | go_big_quiet_step (exact CR.quiet))
            refine wpQuiet_nil ?_
            clear H
            intro _ H
            go_wp2_with (go_skip)
            have hmin : (if c x y < u then c x y else u) = min u (c x y) := by split <;> omega
            refine ⟨⟨j + 2, _, by go_num, by omega, by rw [HL.out.2.2.1]; omega, rfl, ?_, H⟩, by simp [intOf]; omega⟩
            rw [hmin, show j + 2 - 1 = j + 1 by omega, HE.out.2]
            exact HE.out.1
          · obtain rfl : ln = i := by omega
            have hu : u = mnW c L n := by
              obtain ⟨x, hx⟩ := drop_last HL.out.2.1
              rw [HL.out.2.2.1] at hx
              rw [hx, mnW_end] at hmn
              exact hmn
            subst hu
            clear hmn
            obtain ⟨m, hm⟩ : ∃ m, mnW c L n = m := ⟨_, rfl⟩
            rw [hm] at hmp hml
            have HM := Lib.hid hm
            simp only [hm]
            clear hm
            have g5 : decide ((ln : Int) < ln) = false := by simp
            have hs1 : wrap64 (n - m) = n - m := IntWalk.wrap64_in _ ⟨by omega, by omega⟩
            go_wp2_with (go_skip)
            have H0 := H.top3 (.there .here) (.there .here) (.there .here)
            clear H
            rw [← HT.out.2.2.1, ← HT.out.2.2.2] at H0
            go_loopw [11, 16] (fun v i wr => RrPush W (OwnT 30 1 (.slice a2 ln c2) ln (L.map pv) :: l) qd c P L m v i wr) (fun _ i _ => ln - (intOf i).toNat)
            case atStart => exact ⟨1, c, P, rfl, by omega, by rw [HL.out.2.2.1]; omega, HT.out.2.1, rfl, rfl, by omega, ra, rcc, H0⟩
            case round =>
              obtain ⟨i, c1, P1, rfl, hi3, hi4, hpc1, hps, hfl, hlen, ra1, rcc1, H⟩ := hrel.out
              clear H0 hrel
              rw [HL.out.2.2.1] at hi4
              obtain ⟨N3, hN3⟩ : ∃ N3, P1.length = N3 := ⟨_, rfl⟩
              obtain ⟨N4, hN4⟩ : ∃ N4, (edgesOf c1).length = N4 := ⟨_, rfl⟩
              rw [hN3, hN4] at H
              rw [hN3, HT.out.2.2.2] at hlen
              by_cases hlt : i < ln
              · obtain ⟨j, rfl⟩ : ∃ j, i = j + 1 := ⟨i - 1, by omega⟩
                rw [Nat.add_sub_cancel] at hps hfl
                have x1 : L[j]? = some (L[j]'(by rw [HL.out.2.2.1]; omega)) := List.getElem?_eq_getElem _
                have x2 : L[j + 1]? = some (L[j + 1]'(by rw [HL.out.2.2.1]; omega)) := List.getElem?_eq_getElem _
                generalize L[j]'(by rw [HL.out.2.2.1]; omega) = x at x1
                generalize L[j + 1]'(by rw [HL.out.2.2.1]; omega) = y at x2
                have hx16 := HL.out.2.2.2.2 x (List.mem_iff_getElem?.2 ⟨_, x1⟩)
                have hy16 := HL.out.2.2.2.2 y (List.mem_iff_getElem?.2 ⟨_, x2⟩)
                obtain ⟨M, e1, e2⟩ := drop_two x1 x2
                rw [e1, psW, ← e2] at hps
                rw [e1, flW, ← e2] at hfl
                obtain ⟨g, o, c3, e, _, _⟩ := OwnT.form (H.ok _ (List.mem_cons_of_mem _ (List.mem_cons_of_mem _ (List.mem_cons_of_mem _ List.mem_cons_self)))) (by omega)
                simp only [Value.slice.injEq, true_and] at e
                obtain ⟨rfl, rfl⟩ := e
                have RX := Lib.hid (show ∀ (l' : List Thing) (w' : World), OwnT 30 1 (.slice (some ⟨g, o, none⟩) ln c2) ln (L.map pv) ∈ l' → Heap W l' w' → w'.cell? ⟨g, o + j, none⟩ = some (.int .u8 (x : Int)) ∧ w'.cell? ⟨g, o + (j + 1), none⟩ = some (.int .u8 (y : Int)) from fun l' w' hm h => ⟨rd_party (h.ownRd hm) x1, rd_party (h.ownRd hm) x2⟩)
                have HN := Lib.hid (And.intro hN3 (And.intro hN4 (And.intro hps hfl)))
                have PU := Lib.hid (show ∀ (l' : List Thing) (w' : World), RgH W l' qd c1 w' → _ from fun l' w' hh => rpush_H (W := W) (l := l') (w := w') (p := qd) c1 x y m (by omega) (by omega) (by omega) (by omega) hpc1 hh)
                have HPP := Lib.hid (hpc1.push x y m)
                have hn1 : N3 + 1 ≤ maxLen := by unfold maxLen; omega
                have hn2 : (N3 + 1) * 16 ≤ 140737488355328 := by omega
                clear hps hfl e1 e2 x1 x2 hpc1 hN3 hN4
                go_wp2_with (go_skip)
                refine wp_region_K [11] [0, 1, 2, 3, 4, 5, 6, 7, 8, 9, 10, 11] [OwnT 30 1 (.slice (some ⟨g, o, none⟩) ln c2) ln (L.map pv)] H (fun t ht => by rw [List.mem_singleton.1 ht]; (repeat (first | (with_reducible exact List.mem_cons_self) | with_reducible apply List.mem_cons_of_mem))) (by kernel_rfl) (by kernel_rfl) ?_
                iterate 11 (apply wpK_step; (· rfl); (· rfl); (· rfl); (· exact Nat.le_of_ble_eq_true rfl); (· intro l0 hs0 w0 H0; (first | go_big_quiet_skip | ((with_reducible apply wpQ_loadAt); (· exact cell_party); (· rfl); (· rfl); (· first | exact fun w' h => (RX.out _ w' (hs0 _ List.mem_cons_self) h).1 | exact fun w' h => (RX.out _ w' (hs0 _ List.mem_cons_self) h).2); (simp only [Act.put, List.setIfInBounds_toArray, List.set_cons_zero, List.set_cons_succ])) | go_big_quiet_step (fail)); (refine wpQuiet_nil ?_); (simp only [Array.getD_eq_getD_getElem?, List.getElem?_toArray, List.getElem?_cons_succ, List.getElem?_cons_zero, Option.getD_some]; rfl)); (simp only [Act.put, List.setIfInBounds_toArray, List.set_cons_zero, List.set_cons_succ]))
                refine wpK_call (f := 101) (argl := [.pointer (some ⟨qd, 0, none⟩), .int .u8 (x : Int), .int .u8 (y : Int), .int .i64 m]) rfl rfl rfl Try.call101 rfl ?_
                intro w0 H0
                refine (PU.out _ _ ⟨ra1, rcc1, by rw [HN.out.2.1]; exact H0.top2 (.there .here) (.there .here)⟩).mono ?_
                clear H0
                rintro e w6 ⟨rfl, ra2, rcc2, H1⟩
                refine ⟨_, _, rfl, H1, _, Keeps.refl _, fun t ht => by rw [List.mem_singleton.1 ht]; (repeat (first | (with_reducible exact List.mem_cons_self) | with_reducible apply List.mem_cons_of_mem)), ?_⟩
                clear H1
                (simp only [Act.put, List.setIfInBounds_toArray, List.set_cons_zero, List.set_cons_succ])
                (refine wpK_nil ?_; clear H; intro _ H)
                replace H := H.pull (.there (.there .here))
                go_wp2_with (go_skip)
                refine wp_region_O [12, 13] [0, 1, 2, 3, 4, 5, 6, 7, 8, 9, 10, 11, 12, 13, 14] (fun l0 => ∃ pre, l0 = pre ++ (RgT qd (.slice ra2 (edgesOf (pushT c1 x y m)).length rcc2) :: FlT (.slice ra2 (edgesOf (pushT c1 x y m)).length rcc2) (edgesOf (pushT c1 x y m)).length (edgesOf (pushT c1 x y m)) :: OwnT 30 1 (.slice (some ⟨g, o, none⟩) ln c2) ln (L.map pv) :: l)) H ⟨[_], rfl⟩ (by kernel_rfl) (by kernel_rfl) ?_
                iterate 12 (apply wpO_step; (· rfl); (· rfl); (· rfl); (· exact Nat.le_of_ble_eq_true rfl); (· rintro l0 ⟨pre, rfl⟩ w0 H0; (first | go_big_quiet_skip | ((with_reducible apply wpQ_loadAt); (· exact cell_party); (· rfl); (· rfl); (· first | exact fun w' h => (RX.out _ w' (List.mem_append_right _ (by (repeat (first | (with_reducible exact List.mem_cons_self) | with_reducible apply List.mem_cons_of_mem)))) h).1 | exact fun w' h => (RX.out _ w' (List.mem_append_right _ (by (repeat (first | (with_reducible exact List.mem_cons_self) | with_reducible apply List.mem_cons_of_mem)))) h).2); (simp only [Act.put, List.setIfInBounds_toArray, List.set_cons_zero, List.set_cons_succ])) | go_big_quiet_step (fail)); (refine wpQuiet_nil ?_); (simp only [Array.getD_eq_getD_getElem?, List.getElem?_toArray, List.getElem?_cons_succ, List.getElem?_cons_zero, Option.getD_some]; rfl)); (simp only [Act.put, List.setIfInBounds_toArray, List.set_cons_zero, List.set_cons_succ]))
                refine wpO_bsR rfl rfl rfl bs_flow rfl (fun p => ⟨[_, _], rfl⟩) ?_
                intro pf
                (simp only [Act.put, List.setIfInBounds_toArray, List.set_cons_zero, List.set_cons_succ])
                refine wpO_append slF rfl rfl rfl rfl (.there .here) List.mem_cons_self rfl rfl (flowC_one _ _ _) hn1 hn2 (fun v => ⟨[_, _], rfl⟩) ?_
                intro v2
                (simp only [Act.put, List.setIfInBounds_toArray, List.set_cons_zero, List.set_cons_succ])
                (apply wpO_step; (· rfl); (· rfl); (· rfl); (· exact Nat.le_of_ble_eq_true rfl); (· rintro l0 ⟨pre, rfl⟩ w0 H0; (first | go_big_quiet_skip | fail | go_big_quiet_step (fail)); (refine wpQuiet_nil ?_); (simp only [Array.getD_eq_getD_getElem?, List.getElem?_toArray, List.getElem?_cons_succ, List.getElem?_cons_zero, Option.getD_some]; rfl)); (simp only [Act.put, List.setIfInBounds_toArray, List.set_cons_zero, List.set_cons_succ]))
                (refine wpO_nil ?_; clear H; intro _ H)
                go_wp2_with (go_skip)
                refine ⟨⟨j + 2, pushT c1 x y m, P1 ++ [⟨x, y, m⟩], by go_num, by omega, by rw [HL.out.2.2.1]; omega, HPP.out, ?_, ?_, ?_, ra2, rcc2, ?_⟩, by simp [intOf]; omega⟩
                · rw [show j + 2 - 1 = j + 1 by omega]; exact HN.out.2.2.1
                · rw [show j + 2 - 1 = j + 1 by omega, List.append_assoc]; exact HN.out.2.2.2
                · rw [List.length_append, List.length_singleton, HN.out.1, HT.out.2.2.2]; omega
                · rw [flT_snoc, HN.out.1]
                  exact H.drop (.there .here)
              · obtain rfl : ln = i := by omega
                obtain ⟨x, hx⟩ := drop_last HL.out.2.1
                rw [HL.out.2.2.1] at hx
                rw [hx, psW_end] at hps
                rw [hx, flW_end, List.append_nil] at hfl
                have HT2 := HT.out.1.snoc hpos HL.out.1 HL.out.2.1
                rw [HM.out, ← hps, ← hfl] at HT2
                have HT2 := Lib.hid HT2
                clear hps hfl hpc1 hx
                go_wp2_with (go_skip)
                refine ⟨⟨k + 1, c1, n - m, P1, rfl, HT2.out, ra1, rcc1, ?_⟩, by simp [intOf]; omega⟩
                rw [hN3, hN4]
                exact H.drop (.there (.there (.there .here)))
    · have g1 : decide (n > 0) = false := by simp; omega
      have g2 : decide (0 < n) = false := by simp; omega
      have HT := Lib.hid hT
      clear hT hpc hpot
      go_wp2_with (go_skip)
      all_goals
        go_ret2
        exact ⟨_, P, _, rfl, ⟨k, c, n, HT.out, .inl hpos, by omega⟩, (H.drop (.there .here)).drop (.there .here)⟩
theorem rmost_H (c0 : Caps) (f t : Nat) (hf : f ≤ 255) (ht : t ≤ 255) (hc : PlayC c0) {a : Option Addr} {N cc : Nat} (hN : (edgesOf c0).length = N) (m1 : RgT q (.slice a N cc) ∈ l) (m2 : FlT (.slice a N cc) N (edgesOf c0) ∈ l) (H : Heap W l w) :
    Calls Try.prog 66 #[.pointer (some ⟨q, 0, none⟩), .int .u8 (f : Int), .int .u8 (t : Int)] w fun e w' => ∃ P got, e = .returned (.int .i64 got) ∧ RouteOut f t c0 4611686018427387904 P got ∧ Heap W l w' := by
  have C := rroute_H (q := q) c0 f t 4611686018427387904 hf ht (by omega) (by omega) hc hN m1 m2 H
  clear H m1 m2 hc hN
  go_enter Try.func66, Try.ntmps66
  go_wp2_with (go_skip)
  refine C.mono ?_
  clear C
  rintro e w1 ⟨v, P, got, rfl, hr, H⟩
  have HR := Lib.hid hr
  clear hr
  go_wp2_with (go_skip)
  go_ret
  exact ⟨P, got, rfl, HR.out, H.tail⟩
end
end Go.Proofs.Ytgobnamhdkbbeaa

/- What is proved of a region outside serves in a round of a range over a function. -/
namespace Go.Proofs.Ytgobnamhdkbbeaa
open Go.RowKit
/-- The wide fence, in a round or not. -/
abbrev WR (ro : Option Nat) : Fence := { Fence.wide with round := ro }
def noDefer (l : List Oper) : Bool := l.all fun o => match o.op with
  | .defer _ => false
  | _ => true
section
variable {ro : Option Nat} {n : Nat} {P : Program} {ops : Array Oper} {Q : Exit → Act → World → Prop}
theorem noDefer_at {l : List Oper} (h : noDefer l = true) {o : Oper} (ho : o ∈ l) : ∀ c, o.op ≠ .defer c := by
  intro c e
  unfold noDefer at h
  have := List.all_eq_true.1 h o ho
  rw [e] at this
  cases this
theorem calls_in {f : FuncId} {args : Array Value} {w : World} {R : Ending → World → Prop} (h : Calls P f args w R) : CallsIn (WR ro) n P f args w R := (callsIn_wide (n := n)).2 h
theorem rows_in {row : String} {args : Array Value} {w : World} {R : Value → World → Prop} (h : Rows P row args w R) : RowsIn (WR ro) n P row args w R := fun c cs _ => by
  obtain ⟨v, w', r, s⟩ := h c cs
  exact ⟨v, w', r, stepsIn_wide.2 s⟩
theorem oper_in {o : Oper} {a : Act} {w : World} {K : Act → World → Prop} (hd : ∀ c, o.op ≠ .defer c) (h : o.wp P a w K Q) : o.wpIn (WR ro) n P a w K Q := by
  refine ⟨fun _ _ => trivial, ?_⟩
  rw [Oper.semAt_eq _ _ _ hd]
  unfold Oper.wp at h
  generalize (execOp a.eval o).run P w = r at *
  cases r with
  | ok x w' =>
    cases x <;> simp only [Oper.upon, Oper.uponIn] at h ⊢ <;>
      first
        | exact h
        | exact ⟨fun h0 => absurd h0 (by simp [Fence.wide]), calls_in (Calls.mono h fun e w'' he => by cases e <;> exact he)⟩
        | exact ⟨fun h0 => absurd h0 (by simp [Fence.wide]), rows_in h⟩
        | exact h.elim
  | halt x w' => cases x <;> simp only [Oper.upon, Oper.uponIn] at h ⊢ <;> first | exact h | exact h.elim
theorem wpList_in (hQ : ¬ LetsOut Q) : ∀ (l : List Oper) (a : Act) (w : World), noDefer l = true → wpList P ops Q l a w → wpListIn (WR ro) n P ops Q l a w
  | [], _, _, _, h => h
  | o :: l, a, w, hd, h => by
    have hd1 := noDefer_at hd (List.mem_cons_self (a := o) (l := l))
    have hd2 : noDefer l = true := by unfold noDefer at hd ⊢; rw [List.all_cons, Bool.and_eq_true] at hd; exact hd.2
    unfold wpList at h
    unfold wpListIn
    split
    · rename_i hw
      rw [if_pos hw] at h
      rcases h with h | h
      · exact Oper.wpIn_mono (fun a w h => wpList_in hQ l a w hd2 h) (oper_in hd1 h)
      · exact absurd h.2 hQ
    · rename_i hw
      rw [if_neg hw] at h
      exact ⟨fun _ _ => trivial, wpList_in hQ l _ w hd2 h⟩
theorem wpOp_in {i : Nat} {a : Act} {w : World} {K K' : Act → World → Prop} (hQ : ¬ LetsOut Q) (hd : noDefer ops.toList = true) (hK : ∀ a w, K a w → K' a w) (h : wpOp P ops Q i K a w) : wpOpIn (WR ro) n P ops Q i K' a w := by
  unfold wpOp at h
  unfold wpOpIn
  cases ho : ops[i]? with
  | none =>
    simp only [ho] at h ⊢
    exact hK _ _ h
  | some o =>
    simp only [ho] at h ⊢
    split
    · rename_i hw
      rw [if_pos hw] at h
      rcases h with h | h
      · refine Oper.wpIn_mono hK (oper_in (noDefer_at hd ?_) h)
        have := Array.getElem?_eq_some_iff.1 ho
        obtain ⟨hi, rfl⟩ := this
        simp
      · exact absurd h.2 hQ
    · rename_i hw
      rw [if_neg hw] at h
      exact ⟨fun _ _ => trivial, hK _ _ h⟩
theorem wpAny_in {md : Region.Mode} (hQ : ¬ LetsOut Q) (hd : noDefer ops.toList = true) : ∀ (f : Nat) (listed : Array Bool) (a : Act) (w : World), wpAny P md ops Q f listed a w → wpAnyIn (WR ro) n P md ops Q f listed a w
  | 0, _, _, _, h => h
  | f + 1, listed, a, w, h => ⟨h.1, fun i hi => wpOp_in hQ hd (fun a w h => wpAny_in hQ hd f _ a w h) (h.2 i hi)⟩
theorem region_in {id : Nat} {lo : List Oper} {a : Act} {w : World} (hd : noDefer lo = true) (hQ : ¬ LetsOut Q) (h : wpList P lo.toArray Q lo a w) : (Code.region id lo.toArray false).wpIn (WR ro) n P Q a w :=
  wpIn_region_lit (wpList_in hQ lo a w hd h)
theorem region_in_any {id : Nat} {lo : List Oper} {a : Act} {w : World} (hm : P.follows .mixedOrders = true) (hd : noDefer lo = true) (hQ : ¬ LetsOut Q) (h : wpAny P .any lo.toArray Q lo.length (Array.replicate lo.length false) a { w with drawn := w.drawn + 1 }) : (Code.region id lo.toArray true).wpIn (WR ro) n P Q a w :=
  wpIn_region_any hm (by simpa using wpAny_in hQ (by simpa using hd) _ _ _ _ h)
theorem region_in_K {W : World} {id : Nat} {a : Act} {w : World} {l : List Thing} {lo : List Oper} (loud ord : List Nat) (base : List Thing) (H : Heap W l w) (hG : Keeps base l) (hm : P.follows .mixedOrders = true) (hd : noDefer lo = true) (hQ : ¬ LetsOut Q) (hB : Region.lexOB lo.toArray loud ord = true)
    (h : wpK P lo.toArray W loud (fun l' a' => ∀ w', Heap W l' w' → Q .normal a' w') ord base l a) : (Code.region id lo.toArray true).wpIn (WR ro) n P Q a w := by
  simp only [Region.lexOB, Bool.and_eq_true, beq_iff_eq] at hB
  refine region_in_any hm hd hQ ?_
  have := WholeK.lexO (md := .any) hB.1.1 ord base l _ a hB.1.2 h
  have h2 := WholeK.any (Q := Q) (fun l a w H h => h w H) ord.length base l _ a _ hG H.drew this
  rw [hB.2] at h2
  simpa using h2
theorem region_in_O {W : World} {id : Nat} {a : Act} {w : World} {l : List Thing} {lo : List Oper} (loud ord : List Nat) (G : List Thing → Prop) (H : Heap W l w) (hG : G l) (hm : P.follows .mixedOrders = true) (hd : noDefer lo = true) (hQ : ¬ LetsOut Q) (hB : Region.lexOB lo.toArray loud ord = true)
    (h : wpO P lo.toArray W G loud (fun l' a' => ∀ w', Heap W l' w' → Q .normal a' w') ord l a) : (Code.region id lo.toArray true).wpIn (WR ro) n P Q a w := by
  simp only [Region.lexOB, Bool.and_eq_true, beq_iff_eq] at hB
  refine region_in_any hm hd hQ ?_
  have := WholeG.lexO (md := .any) hB.1.1 ord l _ a hB.1.2 h
  have h2 := WholeG.any (Q := Q) (fun l a w H h => h w H) ord.length l _ a _ hG H.drew this
  rw [hB.2] at h2
  simpa using h2
end
end Go.Proofs.Ytgobnamhdkbbeaa

/- flows.least; flows.ways. -/
namespace Go.Proofs.Ytgobnamhdkbbeaa
open Go.RowKit
set_option linter.unusedSimpArgs false
set_option linter.unusedVariables false
structure LeLoop (W : World) (B : List Thing) (c : Caps) (L : List Nat) (n : Int) (m i : Value) (wr : World) : Prop where
  out : ∃ (k : Nat) (u : Int), i = .int .i64 (k : Int) ∧ k + 1 ≤ L.length ∧ m = .int .i64 u ∧ mnW c (L.drop k) u = mnW c L n ∧ Heap W B wr
section
variable {W w : World} {l : List Thing} {p : Nat}
set_option maxRecDepth 100000
set_option maxHeartbeats 4000000
theorem least_H (c : Caps) (L : List Nat) (n : Int) (ln : Nat) (a2 : Option Addr) (c2 : Nat) (hL : L ≠ []) (hln : L.length = ln) (h16 : ln ≤ 16) (hr : ∀ x ∈ L, x ≤ 16) (hg : GoodC c) (m1 : Gr p c ∈ l) (m2 : OwnT 30 1 (.slice a2 ln c2) ln (L.map pv) ∈ l) :
    AnsH W l 95 #[.pointer (some ⟨p, 0, none⟩), .slice a2 ln c2, .int .i64 n] (.int .i64 (mnW c L n)) := by
  intro w H
  have hl1 : 1 ≤ ln := by rw [← hln]; exact List.length_pos_iff.2 hL
  obtain ⟨g, o, c3, e, _, _⟩ := OwnT.form (H.ok _ m2) (by omega)
  simp only [Value.slice.injEq, true_and] at e
  obtain ⟨rfl, rfl⟩ := e
  have HL := Lib.hid (And.intro hL (And.intro hln hr))
  have CG := Lib.hid (show ∀ (x y : Nat), x ≤ 255 → y ≤ 255 → AnsH W l 15 #[.pointer (some ⟨p, 0, none⟩), .int .u8 (x : Int), .int .u8 (y : Int)] (.int .i64 (c x y)) from fun x y hx hy => by
    have := cap_H (W := W) (l := l) (p := p) (c := c) x y hx hy m1
    rwa [hg.capOf] at this)
  generalize hres : mnW c L n = res
  have HRS := Lib.hid hres
  clear hL hln hr hg hres
  go_enter Try.func95, Try.ntmps95
  go_wp2_with (go_skip)
  have H0 := H
  clear H
  go_loopw [2, 11] (fun m i wr => LeLoop W l c L n m i wr) (fun _ i _ => ln - (intOf i).toNat)
  case atStart => exact ⟨0, n, rfl, by rw [HL.out.2.1]; omega, rfl, rfl, H0⟩
  case round =>
    obtain ⟨k, u, rfl, hk, rfl, hmn, H'⟩ := hrel.out
    clear H0 hrel
    have H := H'
    clear H'
    rw [HL.out.2.1] at hk
    by_cases hlt : k + 1 < ln
    · have x1 : L[k]? = some (L[k]'(by rw [HL.out.2.1]; omega)) := List.getElem?_eq_getElem _
      have x2 : L[k + 1]? = some (L[k + 1]'(by rw [HL.out.2.1]; omega)) := List.getElem?_eq_getElem _
      generalize L[k]'(by rw [HL.out.2.1]; omega) = x at x1
      generalize L[k + 1]'(by rw [HL.out.2.1]; omega) = y at x2
      have hx16 := HL.out.2.2 x (List.mem_iff_getElem?.2 ⟨_, x1⟩)
      have hy16 := HL.out.2.2 y (List.mem_iff_getElem?.2 ⟨_, x2⟩)
      obtain ⟨M, e1, e2⟩ := drop_two x1 x2
      rw [e1, mnW] at hmn
      have CR := CG.out x y (by omega) (by omega)
      have RX := Lib.hid (show ∀ w', Heap W l w' → w'.cell? ⟨g, o + k, none⟩ = some (.int .u8 (x : Int)) ∧ w'.cell? ⟨g, o + (k + 1), none⟩ = some (.int .u8 (y : Int)) from fun w' h => ⟨rd_party (h.ownRd m2) x1, rd_party (h.ownRd m2) x2⟩)
      have HE := Lib.hid (And.intro hmn e2)
      clear hmn e1 e2 x1 x2
      go_wp2_with (go_skip)
      refine wp_region_H H (by kernel_rfl) (by kernel_rfl) ?_
      repeat (first | go_big_quiet_skip | (first | ((with_reducible apply wpQ_loadAt); (· exact cell_party); (· rfl); (· rfl); (· first | exact fun w' h => (RX.out w' h).1 | exact fun w' h => (RX.out w' h).2); (simp only [Act.put, List.setIfInBounds_toArray, List.set_cons_zero, List.set_cons_succ]))) | go_big_quiet_step (exact CR.quiet))
      refine wpQuiet_nil ?_
      clear H
      intro _ H
      go_wp2_with (go_skip)
      have hmin : (if c x y < u then c x y else u) = min u (c x y) := by split <;> omega
      refine ⟨⟨k + 1, _, by go_num, by rw [HL.out.2.1]; omega, rfl, ?_, H⟩, by simp [intOf]; omega⟩
      rw [hmin, HE.out.2]
      exact HE.out.1
    · obtain rfl : ln = k + 1 := by omega
      have hu : u = res := by
        obtain ⟨x, hx⟩ := drop_last HL.out.1
        rw [HL.out.2.1, Nat.add_sub_cancel] at hx
        rw [hx, mnW_end] at hmn
        rw [← HRS.out, ← hmn]
      subst hu
      clear hmn
      go_wp2_with (go_skip)
      go_ret
      exact ⟨rfl, H⟩
/-- What ways answers: the closure, and what it has captured. -/
abbrev wayF (b1 b2 b3 : Nat) : Value := .func (.func 114) #[] #[.pointer (some ⟨b1, 0, none⟩), .pointer (some ⟨b2, 0, none⟩), .pointer (some ⟨b3, 0, none⟩)]
abbrev WayT (b1 b2 b3 p f t : Nat) : List Thing := [Cel b3 #[.int .u8 (t : Int)] 30, Cel b2 #[.int .u8 (f : Int)] 30, Cel b1 #[.pointer (some ⟨p, 0, none⟩)] 28]
theorem ways_H (p f t : Nat) (H : Heap W l w) : Calls Try.prog 94 #[.pointer (some ⟨p, 0, none⟩), .int .u8 (f : Int), .int .u8 (t : Int)] w fun e w' => ∃ b1 b2 b3, e = .returned (wayF b1 b2 b3) ∧ Heap W (WayT b1 b2 b3 p f t ++ l) w' := by
  go_enter Try.func94, Try.ntmps94
  go_wp2_with (first
    | go_skip
    | ((with_reducible show wpList _ _ _ (_ :: _) _ _); (with_reducible apply wpl_boxPH); (· rfl); (· rfl); (· exact H); (clear H; intro b1 _ H); (simp only [Act.put, List.setIfInBounds_toArray, List.set_cons_zero, List.set_cons_succ]))
    | ((with_reducible show wpList _ _ _ (_ :: _) _ _); (with_reducible apply wpl_boxCH); (· rfl); (· rfl); (· rfl); (· exact H); (clear H; intro b2 _ H); (simp only [Act.put, List.setIfInBounds_toArray, List.set_cons_zero, List.set_cons_succ])))
  go_ret
  exact ⟨b1, _, _, rfl, H⟩
end
end Go.Proofs.Ytgobnamhdkbbeaa

/- A range over a function, with memory as things: the statement; one call of yield; the function's return. -/
namespace Go.Proofs.Ytgobnamhdkbbeaa
open Go.RowKit
/-- A block that is no cells. -/
def ObjT (k : Nat) (o : Obj) : Thing := ⟨some k, fun w => w.heap[k]? = some o, fun _ _ h ho => (h k rfl).trans ho⟩
section
variable {W w : World} {l : List Thing}
theorem Heap.allocO (H : Heap W l w) (o : Obj) : Heap W (ObjT w.heap.size o :: l) (w.alloc o) :=
  H.add (World.grownBy_alloc w o none) (World.alloc_heap_new w o) fun k e => by
    cases e
    exact ⟨Nat.le_refl _, by rw [World.size_alloc]; omega⟩
theorem Heap.putO {k : Nat} {o o' : Obj} (H : Heap W (ObjT k o :: l) w) : Heap W (ObjT k o' :: l) (w.putObj k o') := by
  have hk : w.heap[k]? = some o := H.ok _ List.mem_cons_self
  refine H.head (grownBy_putObj' w k o') ?_ (.inl rfl)
  have hlt : k < w.heap.size := (Array.getElem?_eq_some_iff.1 hk).1
  show (w.putObj k o').heap[k]? = some o'
  unfold World.putObj
  simp [hlt]
/-- The record of a loop. -/
abbrev loopR (st : LoopState) (pe : Option Code) (fn : FuncId) (a : Act) (ps : Array Tmp) (assign body : Code) (D : Nat) : Loop := { state := st, pending := pe, fn, tmps := a.tmps, params := ps, assign, body, defers := D }
/-- The statement. -/
theorem rangeF {P : Program} {g : Operand} {ps : Array Tmp} {assign body : Code} {Q : Exit → Act → World → Prop} {a : Act} {gf : Nat} {lb : Array Value} (hg : a.eval g = .func (.func gf) #[] lb) (eg : ∀ args w, (callFunc gf args).run P w = .ok (.enter gf args) w) (H : Heap W l w)
    (h : ∀ (fn : FuncId) (D : Nat) (w1 : World) (r : Loop), r = loopR .ready none fn a ps assign body D → Heap W (ObjT (D + 1) (.loop r) :: ObjT D (.deferred (some [])) :: l) w1 →
      CallsIn (WR none) 2 P gf (#[.func (.yield (D + 1)) #[] #[]] ++ lb) w1 (rangePost (WR none) 3 P (D + 1) Q { a with defers := { target := .collected D, args := #[] } :: a.defers })) :
    (Code.rangeFunc g ps assign body).wpIn (WR none) 3 P Q a w := by
  refine wpIn_rangeFunc ?_
  intro fn _
  have H1 := (H.allocO (.deferred (some []))).allocO (.loop (loopR .ready none fn a ps assign body w.heap.size))
  rw [World.size_alloc] at H1
  have hc := h fn w.heap.size _ _ rfl H1
  clear h H1
  obtain ⟨D, hD⟩ : ∃ D, D = w.heap.size := ⟨_, rfl⟩
  rw [← hD] at hc
  obtain ⟨r, hr⟩ : ∃ r, r = loopR .ready none fn a ps assign body D := ⟨_, rfl⟩
  have e1 : (Instr.enterLoop fn a.tmps ps assign body none).run P w = .ok (D + 1, [{ target := .collected D, args := #[] }]) ((w.alloc (.deferred (some []))).alloc (.loop r)) := by
    rw [hr, hD]; exact run_enterLoop_outer _ _ _ _ _
  rw [← hr] at hc
  clear hr
  obtain ⟨W1, hW⟩ : ∃ W1, W1 = (w.alloc (.deferred (some []))).alloc (.loop r) := ⟨_, rfl⟩
  rw [← hW] at hc e1
  clear hW H
  have e2 : (resolve a.eval (rangeCall g (D + 1)) 0).run P W1 = .ok { target := .fn (.func gf) lb, args := #[.func (.yield (D + 1)) #[] #[]] } W1 := by
    simp only [resolve, hg]
    simp [go_sem]
  have e3 : (invoke (.fn (.func gf) lb) #[.func (.yield (D + 1)) #[] #[]]).run P W1 = .ok (.enter gf (#[.func (.yield (D + 1)) #[] #[]] ++ lb)) W1 := by
    simp [invoke, go_sem, eg]
  exact ⟨D + 1, _, W1, _, W1, gf, _, W1, e1, e2, fun _ _ => trivial, e3, fun h => absurd h (by simp [Fence.wide]), hc⟩
theorem Heap.recO {k : Nat} {r : Loop} (H : Heap W (ObjT k (.loop r) :: l) w) : w.heap[k]? = some (.loop r) := H.ok (ObjT k (.loop r)) List.mem_cons_self
/-- How a round's body may be left. -/
def BodyQ (P : Program) (W : World) (k : Nat) (r : Loop) (go : List Thing → Prop) (leave : Nat → List Thing → Prop) : Exit → Act → World → Prop
  | .normal, _, w' => ∃ l', Heap W (ObjT k (.loop r) :: l') w' ∧ go l'
  | .exit id, _, w' => ∃ l', Heap W (ObjT k (.loop r) :: l') w' ∧ leave id l'
  | _, _, _ => False
theorem bodyQ_out {P : Program} {W : World} {k : Nat} {r : Loop} {go : List Thing → Prop} {leave : Nat → List Thing → Prop} : ¬ LetsOut (BodyQ P W k r go leave) := fun ⟨_, _, h⟩ => h
/-- One call of yield. -/
theorem upon_yield {P : Program} {Q : Exit → Act → World → Prop} {a a0 a1 : Act} {o : Oper} {K : Act → World → Prop} {v : Value} {k D : Nat} {p : Tmp} {fn : FuncId} {assign body : Code}
    {r0 r1 : Loop} (h0 : r0 = loopR .ready none fn a0 #[p] assign body D) (h1 : r1 = loopR .busy none fn a0 #[p] assign body D) (H : Heap W (ObjT k (.loop r0) :: l) w)
    (hassign : ∀ K : Act → World → Prop, K a1 w → assign.wpIn (WR (some k)) 1 P (Exit.then K (fun _ _ _ => False)) { tmps := a0.tmps.setIfInBounds p v, defers := [] } w)
    (go : List Thing → Prop) (leave : Nat → List Thing → Prop)
    (hbody : ∀ w1, Heap W (ObjT k (.loop r1) :: l) w1 → body.wpIn (WR (some k)) 1 P (BodyQ P W k r1 go leave) a1 w1)
    (hgo : ∀ l' w', go l' → Heap W (ObjT k (.loop r0) :: l') w' → K (a.put o.dst (.bool true)) w')
    (hleave : ∀ id l' w', leave id l' → Heap W (ObjT k (.loop (loopR .done (some (.exit id)) fn a0 #[p] assign body D)) :: l') w' → K (a.put o.dst (.bool false)) w') :
    o.uponIn (WR none) 2 P a K Q ((Instr.yield k #[v]).run P w) := by
  subst h0 h1
  have hrec := H.recO
  have e1 : (Instr.yield k #[v]).run P w = .ok (.round k fn (a0.tmps.setIfInBounds p v) assign body) w := by
    have hy2 := run_yield (P := P) (args := #[v]) hrec rfl
    simp only [loopR] at hy2
    have hz : (#[p] : Array Tmp).zip #[v] = #[(p, v)] := by apply Array.ext'; simp
    rw [hz] at hy2
    simpa using hy2
  rw [e1, Oper.uponIn_round]
  refine ⟨fun h => absurd h (by simp [Fence.wide]), ?_⟩
  refine roundIn_of_wpIn (F := WR none) trivial (hassign _ ?_)
  have e2 := run_beginRound (P := P) hrec rfl
  refine ⟨_, e2, ?_⟩
  refine wpIn_mono (hbody _ H.putO) ?_
  intro e a' w' hB
  cases e with
  | normal =>
    obtain ⟨l', H', hg⟩ := hB
    have e3 := run_endRound (P := P) none H'.recO
    exact ⟨_, _, e3, hgo l' _ hg H'.putO⟩
  | exit id =>
    obtain ⟨l', H', hg⟩ := hB
    have e3 := run_endRound (P := P) (some (.exit id)) H'.recO
    exact ⟨_, _, e3, hleave id l' _ hg H'.putO⟩
  | ret => exact hB.elim
  | goto t => exact hB.elim
  | panic c => exact hB.elim
  | outgrown => exact hB.elim
/-- At the statement's end. -/
theorem rangePost_end {P : Program} {Q : Exit → Act → World → Prop} {a : Act} {k : Nat} {r : Loop} {v : Value} (hr : r.state ≠ .busy) (H : Heap W (ObjT k (.loop r) :: l) w)
    (h : ∀ w', Heap W l w' → match r.pending with
      | none => Q .normal a w'
      | some c => c.wpIn (WR none) 3 P Q a w') : rangePost (WR none) 3 P k Q a (.returned v) w :=
  ⟨_, _, run_endLoop H.recO hr, by
    have H2 := (H.putO (o' := .loop { r with state := .exhausted })).tail
    have h2 := h _ H2
    split at h2 <;> simp_all⟩
/-- The statement, whose body may leave it by its own exit: one tail behind it. -/
theorem rangeP {P : Program} {g : Operand} {ps : Array Tmp} {assign body : Code} {K : Act → World → Prop} {Q' : Exit → Act → World → Prop} {a : Act} {gf : Nat} {lb : Array Value} (T : Nat → World → Prop) (hg : a.eval g = .func (.func gf) #[] lb) (eg : ∀ args w, (callFunc gf args).run P w = .ok (.enter gf args) w) (H : Heap W l w)
    (htail : ∀ (D : Nat) (w' : World), T D w' → K { a with defers := { target := .collected D, args := #[] } :: a.defers } w')
    (h : ∀ (fn : FuncId) (D : Nat) (w1 : World) (r : Loop), r = loopR .ready none fn a ps assign body D → Heap W (ObjT (D + 1) (.loop r) :: ObjT D (.deferred (some [])) :: l) w1 →
      CallsIn (WR none) 2 P gf (#[.func (.yield (D + 1)) #[] #[]] ++ lb) w1 fun e w3 => ∃ v r' l', e = .returned v ∧ r'.state ≠ .busy ∧ (r'.pending = none ∨ r'.pending = some (.exit 0)) ∧ Heap W (ObjT (D + 1) (.loop r') :: l') w3 ∧ ∀ w', Heap W l' w' → T D w') :
    (Code.rangeFunc g ps assign body).wp P (Exit.inBlock 0 (Exit.then K Q')) a w := by
  refine (wpIn_wide (n := 3)).1 ?_
  refine rangeF hg eg H ?_
  intro fn D w1 r hr H1
  refine CallsIn.mono (h fn D w1 r hr H1) ?_
  rintro e w3 ⟨v, r', l', rfl, hs, hp, H3, hT⟩
  refine rangePost_end hs H3 ?_
  intro w' H4
  have hk := htail D w' (hT w' H4)
  rcases hp with hp | hp
  · rw [hp]
    exact hk
  · rw [hp]
    exact wpIn_exit hk
end
end Go.Proofs.Ytgobnamhdkbbeaa
