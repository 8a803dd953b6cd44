/- Rounds that cost less than nothing: plain laws of the search. -/
import Derived.Test.YtglehneaphigdaaRound
namespace Go.Proofs.Ytglehneaphigdaa
set_option linter.unusedVariables false
set_option linter.unusedSimpArgs false
/-- What so many steps back cost. -/
def sumC (P : Nat → Nat) (C : Nat → Int) : Nat → Nat → Int
  | 0, _ => 0
  | k + 1, v => C v + sumC P C k (P v)
theorem back_add (P : Nat → Nat) : ∀ i j v, back P (i + j) v = back P j (back P i v)
  | 0, j, v => by rw [Nat.zero_add]; rfl
  | i + 1, j, v => by rw [show i + 1 + j = (i + j) + 1 by omega]; exact back_add P i j (P v)
theorem back_succ (P : Nat → Nat) (k v : Nat) : back P (k + 1) v = P (back P k v) := by rw [back_add P k 1 v]; rfl
theorem sumC_add (P : Nat → Nat) (C : Nat → Int) : ∀ i j v, sumC P C (i + j) v = sumC P C i v + sumC P C j (back P i v)
  | 0, j, v => by rw [Nat.zero_add]; simp [sumC, back]
  | i + 1, j, v => by
    rw [show i + 1 + j = (i + j) + 1 by omega]
    show C v + sumC P C (i + j) (P v) = C v + sumC P C i (P v) + sumC P C j (back P i (P v))
    rw [sumC_add P C i j (P v)]
    omega
theorem updN_same {α : Type} (d : Nat → α) (p : Nat) (v : α) : updN d p v p = v := if_pos rfl
theorem updN_ne {α : Type} (d : Nat → α) {p q : Nat} (v : α) (h : q ≠ p) : updN d p v q = d q := if_neg h
theorem upd_off {P : Nat → Nat} {C : Nat → Int} {x u : Nat} {c : Int} : ∀ k v, (∀ i, i < k → back (updN P x u) i v ≠ x) → back (updN P x u) k v = back P k v ∧ sumC (updN P x u) (updN C x c) k v = sumC P C k v
  | 0, v, _ => ⟨rfl, rfl⟩
  | k + 1, v, h => by
    have h0 : v ≠ x := h 0 (by omega)
    have hP : updN P x u v = P v := updN_ne _ _ h0
    have hC : updN C x c v = C v := updN_ne _ _ h0
    have ih := upd_off (P := P) (C := C) (x := x) (u := u) (c := c) k (P v) (fun i hi => by
      have := h (i + 1) (by omega)
      show back (updN P x u) i (P v) ≠ x
      rw [← hP]; exact this)
    constructor
    · show back (updN P x u) k (updN P x u v) = back P k (P v)
      rw [hP]; exact ih.1
    · show updN C x c v + sumC (updN P x u) (updN C x c) k (updN P x u v) = C v + sumC P C k (P v)
      rw [hP, hC, ih.2]
theorem tele {P : Nat → Nat} {D C : Nat → Int} (ht : ∀ v, P v ≠ 0 → D (P v) + C v ≤ D v) : ∀ k v, (∀ i, i < k → P (back P i v) ≠ 0) → D (back P k v) + sumC P C k v ≤ D v
  | 0, v, _ => by simp [back, sumC]
  | k + 1, v, h => by
    have h0 : P v ≠ 0 := h 0 (by omega)
    have ih := tele ht k (P v) (fun i hi => h (i + 1) (by omega))
    have := ht v h0
    show D (back P k (P v)) + (C v + sumC P C k (P v)) ≤ D v
    omega
theorem back_per {P : Nat → Nat} {k v : Nat} (h1 : 1 ≤ k) (h : back P k v = v) : ∀ i, ∃ j, j < k ∧ back P i v = back P j v
  | 0 => ⟨0, by omega, rfl⟩
  | i + 1 => by
    obtain ⟨j, hj, e⟩ := back_per h1 h i
    by_cases hl : j + 1 < k
    · exact ⟨j + 1, hl, by rw [back_succ, back_succ, e]⟩
    · exact ⟨0, by omega, by rw [back_succ, e, ← back_succ P j v, show j + 1 = k by omega, h]; rfl⟩
/-- What is known of who is ahead of whom. -/
structure Par (F : List Edg) (D : Nat → Int) (P : Nat → Nat) (C : Nat → Int) : Prop where
  root : ∀ v, P v = 0 → D v = 0
  edge : ∀ v, P v ≠ 0 → (⟨P v, v, C v⟩ : Edg) ∈ F
  tight : ∀ v, P v ≠ 0 → D (P v) + C v ≤ D v
  neg : ∀ k v, 1 ≤ k → back P k v = v → (∀ i, back P i v ≠ 0) → sumC P C k v < 0
theorem Par.step {F : List Edg} {D : Nat → Int} {P : Nat → Nat} {C : Nat → Int} (h : Par F D P C) {e : Edg} (he : e ∈ F) (hf : e.f ≠ 0) (hlt : D e.f + e.c < D e.t) :
    Par F (updN D e.t (D e.f + e.c)) (updN P e.t e.f) (updN C e.t e.c) := by
  obtain ⟨u, x, c⟩ := e
  simp only at hf hlt
  have hmono : ∀ v, updN D x (D u + c) v ≤ D v := fun v => by
    unfold updN
    split
    · rename_i e; subst e; omega
    · omega
  have cycX : (∀ i, back (updN P x u) i x ≠ 0) → ∀ j, 1 ≤ j → back (updN P x u) j x = x → sumC (updN P x u) (updN C x c) j x < 0 := by
    intro hz j
    induction j using Nat.strongRecOn with
    | ind j ih =>
      intro h1 hj
      by_cases hx : ∃ i, 1 ≤ i ∧ i < j ∧ back (updN P x u) i x = x
      · obtain ⟨i, hi1, hij, hi⟩ := hx
        have s1 := ih i hij hi1 hi
        have e2 : back (updN P x u) (j - i) x = x := by
          have := back_add (updN P x u) i (j - i) x
          rw [show i + (j - i) = j by omega, hj, hi] at this
          exact this.symm
        have s2 := ih (j - i) (by omega) (by omega) e2
        have e3 := sumC_add (updN P x u) (updN C x c) i (j - i) x
        rw [show i + (j - i) = j by omega, hi] at e3
        omega
      · obtain ⟨k, rfl⟩ : ∃ k, j = k + 1 := ⟨j - 1, by omega⟩
        have hPx : updN P x u x = u := updN_same ..
        have hCx : updN C x c x = c := updN_same ..
        have hoff : ∀ i, i < k → back (updN P x u) i u ≠ x := fun i hi e => hx ⟨i + 1, by omega, by omega, by
          show back (updN P x u) i (updN P x u x) = x
          rw [hPx]; exact e⟩
        have ho := fun i (hi : i ≤ k) => upd_off (P := P) (C := C) (x := x) (u := u) (c := c) i u (fun i' h' => hoff i' (by omega))
        have hend : back P k u = x := by
          rw [← (ho k (Nat.le_refl _)).1]
          have := hj
          rw [show back (updN P x u) (k + 1) x = back (updN P x u) k (updN P x u x) from rfl, hPx] at this
          exact this
        have ht := tele (P := P) (D := D) (C := C) h.tight k u (fun i hi => by
          rw [← (ho i (by omega)).1]
          have e1 : updN P x u (back (updN P x u) i u) = P (back (updN P x u) i u) := updN_ne _ _ (hoff i hi)
          rw [← e1, ← back_succ (updN P x u) i u]
          have := hz (i + 2)
          rw [show back (updN P x u) (i + 2) x = back (updN P x u) (i + 1) (updN P x u x) from rfl, hPx] at this
          exact this)
        rw [hend] at ht
        show updN C x c x + sumC (updN P x u) (updN C x c) k (updN P x u x) < 0
        rw [hPx, hCx, (ho k (Nat.le_refl _)).2]
        omega
  refine ⟨fun v hv => ?_, fun v hv => ?_, fun v hv => ?_, fun k v h1 hk hz => ?_⟩
  · by_cases e : v = x
    · subst e
      rw [show updN P v u v = u from updN_same ..] at hv
      exact absurd hv hf
    · rw [show updN P x u v = P v from updN_ne _ _ e] at hv
      rw [show updN D x (D u + c) v = D v from updN_ne _ _ e]
      exact h.root v hv
  · by_cases e : v = x
    · subst e
      rw [show updN P v u v = u from updN_same .., show updN C v c v = c from updN_same ..]
      exact he
    · rw [show updN P x u v = P v from updN_ne _ _ e] at hv ⊢
      rw [show updN C x c v = C v from updN_ne _ _ e]
      exact h.edge v hv
  · by_cases e : v = x
    · subst e
      rw [show updN P v u v = u from updN_same .., show updN C v c v = c from updN_same .., show updN D v (D u + c) v = D u + c from updN_same ..]
      have := hmono u
      show updN D v (D u + c) u + c ≤ D u + c
      omega
    · rw [show updN P x u v = P v from updN_ne _ _ e] at hv ⊢
      rw [show updN C x c v = C v from updN_ne _ _ e, show updN D x (D u + c) v = D v from updN_ne _ _ e]
      have := hmono (P v)
      have := h.tight v hv
      show updN D x (D u + c) (P v) + C v ≤ D v
      omega
  · show sumC (updN P x u) (updN C x c) k v < 0
    replace hk : back (updN P x u) k v = v := hk
    replace hz : ∀ i, back (updN P x u) i v ≠ 0 := hz
    by_cases hx : ∃ i, i < k ∧ back (updN P x u) i v = x
    · obtain ⟨i, hik, hi⟩ := hx
      have e1 : back (updN P x u) (k - i) x = v := by
        have := back_add (updN P x u) i (k - i) v
        rw [show i + (k - i) = k by omega, hk, hi] at this
        exact this.symm
      have e2 : back (updN P x u) k x = x := by
        have := back_add (updN P x u) (k - i) i x
        rw [show k - i + i = k by omega, e1, hi] at this
        exact this
      have s1 := sumC_add (updN P x u) (updN C x c) i (k - i) v
      have s2 := sumC_add (updN P x u) (updN C x c) (k - i) i x
      rw [show i + (k - i) = k by omega, hi] at s1
      rw [show k - i + i = k by omega, e1] at s2
      have := cycX (fun j => by have := hz (i + j); rw [back_add, hi] at this; exact this) k h1 e2
      omega
    · have hoff : ∀ i, i < k → back (updN P x u) i v ≠ x := fun i hi e => hx ⟨i, hi, e⟩
      have ho := fun i (hi : i ≤ k) => upd_off (P := P) (C := C) (x := x) (u := u) (c := c) i v (fun i' h' => hoff i' (by omega))
      rw [(ho k (Nat.le_refl _)).2]
      have hk2 : back P k v = v := by rw [← (ho k (Nat.le_refl _)).1]; exact hk
      refine h.neg k v h1 hk2 fun i => ?_
      obtain ⟨j, hj, e⟩ := back_per h1 hk2 i
      rw [e, ← (ho j (by omega)).1]
      exact hz j
/-- Walks of so many edges to whom, and what they cost. -/
inductive Wk (F : List Edg) : Nat → Nat → Int → Prop
  | nil (v : Nat) : Wk F 0 v 0
  | snoc {k u v : Nat} {w c : Int} : Wk F k u w → (⟨u, v, c⟩ : Edg) ∈ F → Wk F (k + 1) v (w + c)
section
variable {F : List Edg} {s : Srch}
theorem relax_mono (s : Srch) (e : Edg) (v : Nat) : (relax s e).D v ≤ s.D v := by
  by_cases h : s.D e.f + e.c < s.D e.t
  · rw [relax_yes h]
    show updN s.D e.t _ v ≤ _
    unfold updN
    split
    · rename_i e2; subst e2; omega
    · omega
  · rw [relax_no h]; exact Int.le_refl _
theorem relax_done (s : Srch) (e : Edg) : (relax s e).D e.t ≤ s.D e.f + e.c := by
  by_cases h : s.D e.f + e.c < s.D e.t
  · rw [relax_yes h]
    show updN s.D e.t _ e.t ≤ _
    rw [updN_same]; omega
  · rw [relax_no h]; omega
theorem fold_mono : ∀ (G : List Edg) (s : Srch) (v : Nat), (G.foldl relax s).D v ≤ s.D v
  | [], s, v => Int.le_refl _
  | e :: G, s, v => Int.le_trans (fold_mono G (relax s e) v) (relax_mono s e v)
theorem fold_done : ∀ (G : List Edg) (s : Srch) (e : Edg), e ∈ G → (G.foldl relax s).D e.t ≤ s.D e.f + e.c
  | x :: G, s, e, h => by
    rcases List.mem_cons.1 h with rfl | h
    · exact Int.le_trans (fold_mono G (relax s e) e.t) (relax_done s e)
    · have h1 := fold_done G (relax s x) e h
      have h2 := relax_mono s x e.f
      rw [List.foldl_cons]
      omega
theorem fold_par : ∀ (G : List Edg) (s : Srch), (∀ e ∈ G, e ∈ F ∧ e.f ≠ 0) → (∃ C, Par F s.D s.P C) → ∃ C, Par F (G.foldl relax s).D (G.foldl relax s).P C
  | [], s, _, h => h
  | e :: G, s, hG, h => by
    refine fold_par G (relax s e) (fun x hx => hG x (List.mem_cons_of_mem _ hx)) ?_
    obtain ⟨C, hC⟩ := h
    have he := hG e List.mem_cons_self
    by_cases hr : s.D e.f + e.c < s.D e.t
    · rw [relax_yes hr]
      exact ⟨_, hC.step he.1 he.2 hr⟩
    · rw [relax_no hr]
      exact ⟨C, hC⟩
theorem fold_last (D0 : Nat → Int) : ∀ (G : List Edg) (s : Srch), (∀ v, s.D v ≤ D0 v) → (s.last ≠ 0 → s.D s.last < D0 s.last) → ((G.foldl relax s).last ≠ 0 → (G.foldl relax s).D (G.foldl relax s).last < D0 (G.foldl relax s).last)
  | [], s, _, h => h
  | e :: G, s, hle, h => by
    refine fold_last D0 G (relax s e) (fun v => Int.le_trans (relax_mono s e v) (hle v)) ?_
    by_cases hr : s.D e.f + e.c < s.D e.t
    · rw [relax_yes hr]
      intro _
      show updN s.D e.t _ e.t < D0 e.t
      rw [updN_same]
      have := hle e.t
      omega
    · rw [relax_no hr]; exact h
theorem last_stay : ∀ (G : List Edg) (s : Srch), (∀ e ∈ G, e.t ≠ 0) → s.last ≠ 0 → (G.foldl relax s).last ≠ 0
  | [], s, _, h => h
  | e :: G, s, hG, h => by
    refine last_stay G (relax s e) (fun x hx => hG x (List.mem_cons_of_mem _ hx)) ?_
    by_cases hr : s.D e.f + e.c < s.D e.t
    · rw [relax_yes hr]; exact hG e List.mem_cons_self
    · rw [relax_no hr]; exact h
theorem fold_none : ∀ (G : List Edg) (s : Srch), (∀ e ∈ G, e.t ≠ 0) → (G.foldl relax s).last = 0 → ∀ e ∈ G, s.D e.t ≤ s.D e.f + e.c
  | x :: G, s, hG, h, e, he => by
    by_cases hr : s.D x.f + x.c < s.D x.t
    · exfalso
      rw [List.foldl_cons, relax_yes hr] at h
      exact last_stay G _ (fun y hy => hG y (List.mem_cons_of_mem _ hy)) (hG x List.mem_cons_self) h
    · rw [List.foldl_cons, relax_no hr] at h
      rcases List.mem_cons.1 he with rfl | he
      · omega
      · exact fold_none G s (fun y hy => hG y (List.mem_cons_of_mem _ hy)) h e he
theorem last_lt : ∀ (G : List Edg) (s : Srch), (∀ e ∈ G, e.t < 17) → s.last < 17 → (G.foldl relax s).last < 17
  | [], s, _, h => h
  | e :: G, s, hG, h => by
    refine last_lt G (relax s e) (fun x hx => hG x (List.mem_cons_of_mem _ hx)) ?_
    by_cases hr : s.D e.f + e.c < s.D e.t
    · rw [relax_yes hr]; exact hG e List.mem_cons_self
    · rw [relax_no hr]; exact h
/-- Edges between parties. -/
def InH (F : List Edg) : Prop := ∀ e ∈ F, 1 ≤ e.f ∧ e.f ≤ 16 ∧ 1 ≤ e.t ∧ e.t ≤ 16
/-- Behind so many times. -/
structure InvL (F : List Edg) (j : Nat) (s : Srch) : Prop where
  lt : s.last < 17
  low : ∀ k v w, k ≤ j → Wk F k v w → s.D v ≤ w
  par : ∃ C, Par F s.D s.P C
  last : j ≠ 0 → s.last ≠ 0 ∧ ∃ D0 : Nat → Int, (∀ k v w, k + 1 ≤ j → Wk F k v w → D0 v ≤ w) ∧ s.D s.last < D0 s.last
theorem InvL.zero : InvL F 0 zeroS := by
  refine ⟨(by decide : (0 : Nat) < 17), fun k v w hk hw => ?_, ⟨fun _ => 0, ⟨fun v _ => rfl, fun v h => absurd rfl h, fun v h => absurd rfl h, fun k v h1 hk hz => absurd rfl (hz 1)⟩⟩, fun h => absurd rfl h⟩
  cases hw with
  | nil => exact Int.le_refl _
  | snoc _ _ => omega
theorem InvL.step {j : Nat} (hF : InH F) (h : InvL F j s) (hl : (onceS F s).last ≠ 0) : InvL F (j + 1) (onceS F s) := by
  refine ⟨last_lt F ⟨s.D, s.P, 0⟩ (fun e he => by have := hF e he; omega) (by decide : (0 : Nat) < 17), fun k v w hk hw => ?_, ?_, fun _ => ⟨hl, s.D, fun k v w hk hw => h.low k v w (by omega) hw, ?_⟩⟩
  · cases hw with
    | nil =>
      have h1 := fold_mono F ⟨s.D, s.P, 0⟩ v
      have h2 := h.low 0 v 0 (by omega) (.nil v)
      exact Int.le_trans h1 h2
    | @snoc k u v w c hw he =>
      have h1 := fold_done F ⟨s.D, s.P, 0⟩ ⟨u, v, c⟩ he
      have h2 := h.low k u w (by omega) hw
      have h3 : (onceS F s).D v ≤ s.D u + c := h1
      omega
  · exact fold_par F ⟨s.D, s.P, 0⟩ (fun e he => ⟨he, by have := hF e he; omega⟩) h.par
  · exact fold_last s.D F ⟨s.D, s.P, 0⟩ (fun v => Int.le_refl _) (fun h => absurd rfl h) hl
theorem run_some (hF : InH F) : ∀ (n j : Nat) (s r : Srch), InvL F j s → runS F n s = some r → InvL F (j + n) r
  | 0, j, s, r, h, e => by
    rw [runS] at e
    cases e; exact h
  | n + 1, j, s, r, h, e => by
    by_cases hl : (onceS F s).last = 0
    · rw [runS_no hl] at e; cases e
    · rw [runS, if_neg hl] at e
      have := run_some hF n (j + 1) _ r (h.step hF hl) e
      rwa [show j + 1 + n = j + (n + 1) by omega] at this
theorem bnd_fold {B : Nat} : ∀ (G : List Edg) (s : Srch) (B : Nat), (∀ e ∈ G, -128 ≤ e.c) → Bnd B s → Bnd (B + 128 * G.length) (G.foldl relax s)
  | [], s, B, _, h => h
  | e :: G, s, B, hG, h => by
    have := bnd_fold (B := B) G (relax s e) (B + 128) (fun x hx => hG x (List.mem_cons_of_mem _ hx)) (Bnd.relax (e := e) h (hG e List.mem_cons_self))
    rw [List.length_cons, show B + 128 * (G.length + 1) = B + 128 + 128 * G.length by omega]
    exact this
theorem run_none (hF : ∀ e ∈ F, e.t ≠ 0 ∧ -128 ≤ e.c) : ∀ (n : Nat) (s : Srch) (B : Nat), Bnd B s → runS F n s = none → ∃ D : Nat → Int, (∀ i, -((B + 128 * F.length * n : Nat) : Int) ≤ D i ∧ D i ≤ 0) ∧ ∀ e ∈ F, D e.t ≤ D e.f + e.c
  | 0, s, B, h, e => by rw [runS] at e; cases e
  | n + 1, s, B, h, e => by
    by_cases hl : (onceS F s).last = 0
    · refine ⟨s.D, fun i => ?_, fold_none F ⟨s.D, s.P, 0⟩ (fun e he => (hF e he).1) hl⟩
      have := h i
      refine ⟨?_, this.2⟩
      have h2 : B ≤ B + 128 * F.length * (n + 1) := Nat.le_add_right ..
      omega
    · rw [runS, if_neg hl] at e
      obtain ⟨D, h1, h2⟩ := run_none hF n _ (B + 128 * F.length) (bnd_fold (B := B) F ⟨s.D, s.P, 0⟩ B (fun e he => (hF e he).2) h) e
      refine ⟨D, fun i => ?_, h2⟩
      have := h1 i
      rwa [show B + 128 * F.length + 128 * F.length * n = B + 128 * F.length * (n + 1) by rw [Nat.mul_add]; omega] at this
end
end Go.Proofs.Ytglehneaphigdaa
