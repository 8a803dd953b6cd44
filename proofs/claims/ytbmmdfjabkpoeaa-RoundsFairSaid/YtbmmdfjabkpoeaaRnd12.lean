/- Rounds of debts: who stands how; that nothing less is left. (Plain.) -/
import Derived.Test.YtbmmdfjabkpoeaaRndHPart9
namespace Go.Proofs.Ytbmmdfjabkpoeaa
set_option linter.unusedSimpArgs false
set_option linter.unusedVariables false
theorem MayD.iff {F : List Flw} : MayD F ↔ (∀ x ∈ F, okD x = true) ∧ F.Pairwise fun y x => cfF y x < 0 := by
  constructor
  · intro h
    refine ⟨fun x hx => ?_, List.pairwise_iff_getElem.2 fun i j hi hj hij => ?_⟩
    · obtain ⟨i, hi, rfl⟩ := List.mem_iff_getElem.1 hx
      exact (h.at (List.getElem?_eq_getElem hi)).1
    · exact (cfF_lt _ _).2 (h.lt (j - i - 1) i _ _ (List.getElem?_eq_getElem hi) (by rw [show i + (j - i - 1) + 1 = j by omega]; exact List.getElem?_eq_getElem hj))
  · rintro ⟨h1, h2⟩ i x hi hx
    refine ⟨h1 x (List.mem_of_getElem? hx), fun y h0 hy => ?_⟩
    obtain ⟨hi', rfl⟩ := List.getElem?_eq_some_iff.1 hx
    obtain ⟨hj', rfl⟩ := List.getElem?_eq_some_iff.1 hy
    exact List.pairwise_iff_getElem.1 h2 (i - 1) i hj' hi' (by omega)
theorem InvN.tail {x : Flw} {F : List Flw} {m : Int} {N : List Int} (I : InvN (x :: F) (m :: N)) : InvN F N := ⟨by have := I.len; simpa using this, fun i y k h1 h2 => I.bnd (i + 1) y k (by simpa using h1) (by simpa using h2)⟩
theorem leftL_mem {y : Flw} : ∀ {F : List Flw} {N : List Int}, y ∈ leftL F N → ∃ (i : Nat) (x : Flw) (m : Int), F[i]? = some x ∧ N[i]? = some m ∧ 0 < m ∧ y = ⟨x.f, x.t, m⟩
  | [], N, h => by simp [leftL] at h
  | x :: F, [], h => by simp [leftL] at h
  | x :: F, m :: N, h => by
    rw [leftL, List.mem_append] at h
    rcases h with h | h
    · by_cases h0 : 0 < m
      · rw [if_pos h0, List.mem_singleton] at h
        exact ⟨0, x, m, rfl, rfl, h0, h⟩
      · rw [if_neg h0] at h; cases h
    · obtain ⟨i, x', m', h1, h2, h3⟩ := leftL_mem h
      exact ⟨i + 1, x', m', by simpa using h1, by simpa using h2, h3⟩
theorem leftL_in {F : List Flw} {N : List Int} : ∀ {i : Nat} {x : Flw} {m : Int}, F[i]? = some x → N[i]? = some m → 0 < m → (⟨x.f, x.t, m⟩ : Flw) ∈ leftL F N := by
  induction F generalizing N with
  | nil => intro i x m h; simp at h
  | cons y F ih =>
    intro i x m h1 h2 h3
    cases N with
    | nil => simp at h2
    | cons k N =>
      rw [leftL, List.mem_append]
      cases i with
      | zero => simp at h1 h2; subst h1 h2; exact .inl (by rw [if_pos h3]; exact List.mem_singleton.2 rfl)
      | succ i => exact .inr (ih (by simpa using h1) (by simpa using h2) h3)
theorem leftL_pw : ∀ {F : List Flw} {N : List Int}, F.Pairwise (fun y x => cfF y x < 0) → (leftL F N).Pairwise fun y x => cfF y x < 0
  | [], N, _ => by simp [leftL]
  | x :: F, [], _ => by simp [leftL]
  | x :: F, m :: N, h => by
    rw [List.pairwise_cons] at h
    have ih := leftL_pw (N := N) h.2
    rw [leftL]
    by_cases h0 : 0 < m
    · rw [if_pos h0, List.singleton_append, List.pairwise_cons]
      refine ⟨fun y hy => ?_, ih⟩
      obtain ⟨i, z, k, h1, _, _, rfl⟩ := leftL_mem hy
      exact h.1 z (List.mem_of_getElem? h1)
    · rw [if_neg h0]; exact ih
theorem leftL_may {F : List Flw} {N : List Int} (h : MayD F) (I : InvN F N) : MayD (leftL F N) := by
  refine MayD.iff.2 ⟨fun y hy => ?_, leftL_pw (MayD.iff.1 h).2⟩
  obtain ⟨i, x, m, h1, h2, h3, rfl⟩ := leftL_mem hy
  have h4 := (MayD.iff.1 h).1 x (List.mem_of_getElem? h1)
  have h5 := I.bnd i x m h1 h2
  simp only [okD, Bool.and_eq_true, decide_eq_true_eq] at h4 ⊢
  exact ⟨⟨h4.1.1, by omega⟩, by omega⟩
/-- How much of a debt there is in a list. -/
def ofF : List Flw → Nat → Nat → Int
  | [], _, _ => 0
  | x :: F, f, t => if x.f = f ∧ x.t = t then x.n else ofF F f t
theorem ofF_at : ∀ {F : List Flw} {k : Nat} {x : Flw} {f t : Nat}, F[k]? = some x → x.f = f → x.t = t → (∀ (j : Nat) (y : Flw), j < k → F[j]? = some y → ¬ (y.f = f ∧ y.t = t)) → ofF F f t = x.n
  | [], k, x, f, t, h, _, _, _ => by simp at h
  | y :: F, 0, x, f, t, h, h1, h2, _ => by simp at h; subst h; exact if_pos ⟨h1, h2⟩
  | y :: F, k + 1, x, f, t, h, h1, h2, h3 => by
    rw [ofF, if_neg (h3 0 y (by omega) rfl)]
    exact ofF_at (by simpa using h) h1 h2 fun j z hj hz => h3 (j + 1) z (by omega) (by simpa using hz)
theorem ofF_no : ∀ {F : List Flw} {f t : Nat}, (∀ y ∈ F, ¬ (y.f = f ∧ y.t = t)) → ofF F f t = 0
  | [], f, t, _ => rfl
  | y :: F, f, t, h => by
    rw [ofF, if_neg (h y List.mem_cons_self)]
    exact ofF_no fun z hz => h z (List.mem_cons_of_mem _ hz)
theorem ofF_uniq {F : List Flw} (h : MayD F) {i : Nat} {x : Flw} (hx : F[i]? = some x) : ofF F x.f x.t = x.n :=
  ofF_at hx rfl rfl fun j y hj hy ⟨h1, h2⟩ => by have := h.uniq hx hy h1.symm h2.symm; omega
theorem ofF_left {F : List Flw} {N : List Int} (h : MayD F) (I : InvN F N) {i : Nat} {x : Flw} {m : Int} (hx : F[i]? = some x) (hm : N[i]? = some m) : ofF (leftL F N) x.f x.t = m := by
  by_cases h0 : 0 < m
  · obtain ⟨j, hj, e⟩ := List.mem_iff_getElem.1 (leftL_in hx hm h0)
    have := ofF_uniq (leftL_may h I) (List.getElem?_eq_getElem hj)
    rw [e] at this
    exact this
  · have h1 := (I.bnd i x m hx hm).1
    have e0 : ofF (leftL F N) x.f x.t = 0 := ofF_no fun y hy ⟨e1, e2⟩ => by
      obtain ⟨j, z, k, g1, g2, g3, rfl⟩ := leftL_mem hy
      have := h.uniq hx g1 e1.symm e2.symm
      subst this
      rw [hm] at g2
      cases g2
      omega
    omega
theorem ofF_was {F : List Flw} {N : List Int} (h : MayD F) (I : InvN F N) {y : Flw} (hy : y ∈ leftL F N) : y.f ≤ 16 ∧ y.t ≤ 16 ∧ 1 ≤ y.n ∧ y.n ≤ ofF F y.f y.t := by
  obtain ⟨i, x, m, h1, h2, h3, rfl⟩ := leftL_mem hy
  have hx := h.okX h1
  have hb := I.bnd i x m h1 h2
  refine ⟨by show x.f ≤ 16; omega, by show x.t ≤ 16; omega, by show 1 ≤ m; omega, ?_⟩
  show m ≤ ofF F x.f x.t
  rw [ofF_uniq h h1]
  exact hb.2
/-- How somebody stands by such debts. -/
def sg (x : Flw) (p : Nat) : Int := (if x.t = p then 1 else 0) - (if x.f = p then 1 else 0)
def dl (L : List Flw) (p : Nat) : Int := (L.map fun x => sg x p * x.n).sum
def dN : List Flw → List Int → Nat → Int
  | x :: F, m :: N, p => sg x p * m + dN F N p
  | _, _, _ => 0
theorem dN_all : ∀ (F : List Flw) (p : Nat), dN F (F.map Flw.n) p = dl F p
  | [], p => rfl
  | x :: F, p => by
    have := dN_all F p
    simp only [List.map_cons, dN, this, dl, List.sum_cons]
theorem dl_left : ∀ {F : List Flw} {N : List Int} (p : Nat), InvN F N → dl (leftL F N) p = dN F N p
  | [], [], p, _ => rfl
  | [], k :: N, p, I => by have := I.len; simp at this
  | x :: F, [], p, I => by have := I.len; simp at this
  | x :: F, m :: N, p, I => by
    have ih := dl_left p I.tail
    have h0 := (I.bnd 0 x m rfl rfl).1
    show dl (_ ++ leftL F N) p = sg x p * m + dN F N p
    unfold dl at ih ⊢
    rw [List.map_append, List.sum_append, ih]
    by_cases h : 0 < m
    · rw [if_pos h]; simp [sg]
    · obtain rfl : m = 0 := by omega
      simp
theorem dN_set : ∀ {F : List Flw} {N : List Int} {i : Nat} {x : Flw} {m : Int} (v : Int) (p : Nat), F[i]? = some x → N[i]? = some m → dN F (N.set i v) p = dN F N p + sg x p * (v - m)
  | [], N, i, x, m, v, p, h, _ => by simp at h
  | y :: F, [], i, x, m, v, p, _, h => by simp at h
  | y :: F, k :: N, 0, x, m, v, p, h1, h2 => by
    simp at h1 h2
    subst h1 h2
    show sg y p * v + dN F N p = sg y p * k + dN F N p + sg y p * (v - k)
    rw [Int.mul_sub]
    omega
  | y :: F, k :: N, i + 1, x, m, v, p, h1, h2 => by
    have ih := dN_set (F := F) (N := N) (i := i) v p (by simpa using h1) (by simpa using h2)
    show sg y p * k + dN F (N.set i v) p = _ + dN F N p + _
    rw [ih]
    omega
def stepSg (F : List Flw) (p : Nat) (s : Nat × Bool) : Int := match F[s.1]? with
  | some x => sg x p * cst s.2
  | none => 0
theorem dN_go (v : Int) (p : Nat) {F : List Flw} : ∀ (S : List (Nat × Bool)) (N : List Int), N.length = F.length → (∀ x ∈ S, x.1 < F.length) → dN F (goS v S N) p = dN F N p + v * (S.map (stepSg F p)).sum
  | [], N, _, _ => by simp [goS]
  | (i, b) :: S, N, hl, h => by
    have hi := h (i, b) List.mem_cons_self
    simp only at hi
    have hx : F[i]? = some F[i] := List.getElem?_eq_getElem hi
    have hm : N[i]? = some (N[i]'(by omega)) := List.getElem?_eq_getElem (by omega)
    rw [goS, dN_go v p S _ (by rw [List.length_set]; exact hl) (fun x hx => h x (List.mem_cons_of_mem _ hx)), dN_set _ p hx hm, List.map_cons, List.sum_cons, Int.mul_add]
    have h1 : stepSg F p (i, b) = sg F[i] p * cst b := by unfold stepSg; rw [hx]
    have h2 : N.getD i 0 = N[i]'(by omega) := by rw [List.getD_eq_getElem?_getD, hm]; rfl
    rw [h1, h2, show N[i]'(by omega) + (if b then v else -v) - N[i]'(by omega) = v * cst b by cases b <;> simp [cst] <;> omega, Int.mul_left_comm]
    omega
theorem dN_round {F : List Flw} {N N' : List Int} (h : MayD F) (I : InvN F N) (hr : roundOf (edD F N) ≠ []) (g : RoundTo F N N') (p : Nat) : dN F N' p = dN F N p := by
  obtain ⟨S, h1, h2, _⟩ := round_go h I hr
  obtain ⟨S', g1, rfl⟩ := g
  obtain rfl := h1.det h g1
  obtain ⟨tf, C, R⟩ := edD_rnd h hr
  rw [dN_go _ p S N I.len fun x hx => (h2 x hx).1]
  generalize roundOf (edD F N) = T at *
  have hS : S.map (stepSg F p) = (List.range T.length).map fun k => (if tf k = p then 1 else 0) - (if tf ((k + 1) % T.length) = p then (1 : Int) else 0) := by
    apply List.ext_getElem?
    intro k
    by_cases hk : k < T.length
    · obtain ⟨i, b, e1, s1⟩ := h1.2 k hk
      have hm : (k + 1) % T.length < T.length := Nat.mod_lt _ (by omega)
      rw [List.getD_eq_getElem?_getD, R.get k hk, List.getD_eq_getElem?_getD, R.get _ hm] at s1
      simp only [Option.getD_some] at s1
      rw [List.getElem?_map, e1, List.getElem?_map, List.getElem?_range hk]
      simp only [Option.map_some, Option.some.injEq]
      obtain ⟨x, m, x1, _⟩ := id s1
      have he := s1.ends x1
      unfold stepSg
      rw [x1]
      simp only
      rcases he with ⟨rfl, e2, e3⟩ | ⟨rfl, e2, e3⟩
      · rw [← e2, ← e3]; simp [sg, cst]; omega
      · rw [← e2, ← e3]; simp [sg, cst]
    · rw [List.getElem?_eq_none (by rw [List.length_map, h1.1]; omega), List.getElem?_eq_none (by simp; omega)]
  rw [hS, rsum_list]
  have : ∀ n, rsum (fun k => (if tf k = p then 1 else 0) - (if tf ((k + 1) % T.length) = p then (1 : Int) else 0)) n = rsum (fun k => if tf k = p then 1 else 0) n - rsum (fun k => if tf ((k + 1) % T.length) = p then 1 else 0) n := by
    intro n
    induction n with
    | zero => rfl
    | succ n ih => simp only [rsum, ih]; omega
  rw [this, rsum_next (fun k => if tf k = p then (1 : Int) else 0) T.length R.pos]
  simp
theorem RdTr.stand {F : List Flw} (h : MayD F) {k : Nat} {N : List Int} (t : RdTr F k N) (p : Nat) : dl (leftL F N) p = dl F p := by
  rw [dl_left p (t.inv h).1]
  induction t with
  | nil => exact dN_all F p
  | @step k N N' a1 a2 a3 ih => rw [dN_round h (a1.inv h).1 a2 a3 p, ih]
theorem leftL_sum : ∀ {F : List Flw} {N : List Int}, InvN F N → ((leftL F N).map Flw.n).sum = N.sum
  | [], [], _ => rfl
  | [], k :: N, I => by have := I.len; simp at this
  | x :: F, [], I => by have := I.len; simp at this
  | x :: F, m :: N, I => by
    have ih := leftL_sum I.tail
    have h0 := (I.bnd 0 x m rfl rfl).1
    show ((_ ++ leftL F N).map Flw.n).sum = (m :: N).sum
    rw [List.map_append, List.sum_append, ih, List.sum_cons]
    by_cases h : 0 < m
    · rw [if_pos h]; simp
    · obtain rfl : m = 0 := by omega
      simp
/-- Where no round is found there is a height for each, and no edge leads up by more than it costs. -/
def HasPot (E : List Edg) : Prop := ∃ D : Nat → Int, (∀ i, -1000000 ≤ D i ∧ D i ≤ 0) ∧ ∀ e ∈ E, D e.t ≤ D e.f + e.c
theorem pot_of {F : List Flw} {N : List Int} (h : MayD F) (hl : F.length ≤ 240) (hr : roundOf (edD F N) = []) : HasPot (edD F N) := by
  cases hs : runS (edD F N) 16 zeroS with
  | some s =>
    obtain ⟨tf, C, R⟩ := round_found (edD_in h) hs
    have := R.pos
    rw [hr] at this
    simp at this
  | none =>
    have hE := edD_ok h (N := N)
    obtain ⟨D, h1, h2⟩ := run_none (F := edD F N) (fun e he => by have := hE e he; exact ⟨by omega, by omega⟩) 16 zeroS 0 (fun i => ⟨by simp [zeroS], by simp [zeroS]⟩) hs
    have := edD_len F N
    exact ⟨D, fun i => by have := h1 i; omega, h2⟩
theorem no_round {E : List Edg} (hE : InH E) (hp : HasPot E) : roundOf E = [] := by
  obtain ⟨D, h1, h2⟩ := hp
  cases hs : runS E 16 zeroS with
  | none => unfold roundOf; rw [hs]
  | some s =>
    exfalso
    obtain ⟨tf, C, R⟩ := round_found hE hs
    have hc := R.cheap
    generalize roundOf E = T at *
    have key : rsum (fun i => D (tf ((i + 1) % T.length)) - D (tf i)) T.length ≤ rsum (fun i => C (tf ((i + 1) % T.length))) T.length := rsum_le _ fun i hi => by
      have := h2 _ (R.edge i hi)
      simp only at this
      omega
    have : ∀ n, rsum (fun i => D (tf ((i + 1) % T.length)) - D (tf i)) n = rsum (fun i => D (tf ((i + 1) % T.length))) n - rsum (fun i => D (tf i)) n := by
      intro n
      induction n with
      | zero => rfl
      | succ n ih => simp only [rsum, ih]; omega
    rw [this, rsum_next (fun i => D (tf i)) T.length R.pos] at key
    omega
theorem HasPot.sub {E E' : List Edg} (h : HasPot E) (hs : ∀ e ∈ E', e ∈ E) : HasPot E' := by
  obtain ⟨D, h1, h2⟩ := h
  exact ⟨D, h1, fun e he => h2 e (hs e he)⟩
/-- What is left, done anew: nothing is to do. -/
theorem left_done {F : List Flw} {N : List Int} (h : MayD F) (I : InvN F N) (hl : F.length ≤ 240) (hr : roundOf (edD F N) = []) : roundOf (edD (leftL F N) ((leftL F N).map Flw.n)) = [] := by
  have hL := leftL_may h I
  refine no_round (edD_in hL) ((pot_of h hl hr).sub fun e he => ?_)
  obtain ⟨i, x, m, h1, h2, h3⟩ := edD_mem.1 he
  rw [List.getElem?_map, h1] at h2
  simp at h2
  subst h2
  rcases h3 with ⟨h3, rfl⟩ | ⟨h3, rfl⟩
  · obtain ⟨j, y, k, g1, g2, g3, rfl⟩ := leftL_mem (List.mem_of_getElem? h1)
    exact edD_mem.2 ⟨j, y, k, g1, g2, .inl ⟨g3, rfl⟩⟩
  · omega
theorem leftL_all : ∀ {F : List Flw}, (∀ x ∈ F, 1 ≤ x.n) → leftL F (F.map Flw.n) = F
  | [], _ => rfl
  | x :: F, h => by
    have ih := leftL_all (F := F) fun y hy => h y (List.mem_cons_of_mem _ hy)
    have hx := h x List.mem_cons_self
    show (if 0 < x.n then [(⟨x.f, x.t, x.n⟩ : Flw)] else []) ++ leftL F (F.map Flw.n) = _
    rw [ih, if_pos (by omega)]
    rfl
theorem MayD.pos {F : List Flw} (h : MayD F) : ∀ x ∈ F, 1 ≤ x.n := fun x hx => by
  obtain ⟨i, hi, rfl⟩ := List.mem_iff_getElem.1 hx
  have := h.okX (List.getElem?_eq_getElem hi)
  omega
end Go.Proofs.Ytbmmdfjabkpoeaa
