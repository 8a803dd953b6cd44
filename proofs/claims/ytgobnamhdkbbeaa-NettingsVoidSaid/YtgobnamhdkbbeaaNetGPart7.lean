/- Part 7 of what several laws stand on: Rnd12, RdFlw, Fair8, Net1, Net2, ClipF, LedSet, LedTy, HeapPair, Led1, Led2. -/
import Derived.Test.YtgobnamhdkbbeaaNetGPart6
import Derived.Test.YtgobnamhdkbbeaaRows
import Derived.Shelf.SlMaps.Clone
/- Rounds of debts: who stands how; that nothing less is left. (Plain.) -/
namespace Go.Proofs.Ytgobnamhdkbbeaa
set_option linter.unusedSimpArgs false
set_option linter.unusedVariables false
theorem MayD.iff {F : List Flw} : MayD F ↔ (∀ x ∈ F, okD x = true) ∧ F.Pairwise fun y x => cfF y x < 0 := by
  constructor
  · intro h
    refine ⟨fun x hx => ?_, List.pairwise_iff_getElem.2 fun i j hi hj hij => ?_⟩
    · obtain ⟨i, hi, rfl⟩ := List.mem_iff_getElem.1 hx
      exact (h.at (List.getElem?_eq_getElem hi)).1
    · exact (cfF_lt _ _).2 (h.lt (j - i - 1) i _ _ (List.getElem?_eq_getElem hi) (by rw [show i + (j - i - 1) + 1 = j by omega]; exact List.getElem?_eq_getElem hj))
  · rintro ⟨h1, h2⟩ i x hi hx
    refine ⟨h1 x (List.mem_of_getElem? hx), fun y h0 hy => ?_⟩
    obtain ⟨hi', rfl⟩ := List.getElem?_eq_some_iff.1 hx
    obtain ⟨hj', rfl⟩ := List.getElem?_eq_some_iff.1 hy
    exact List.pairwise_iff_getElem.1 h2 (i - 1) i hj' hi' (by omega)
theorem InvN.tail {x : Flw} {F : List Flw} {m : Int} {N : List Int} (I : InvN (x :: F) (m :: N)) : InvN F N := ⟨by have := I.len; simpa using this, fun i y k h1 h2 => I.bnd (i + 1) y k (by simpa using h1) (by simpa using h2)⟩
theorem leftL_mem {y : Flw} : ∀ {F : List Flw} {N : List Int}, y ∈ leftL F N → ∃ (i : Nat) (x : Flw) (m : Int), F[i]? = some x ∧ N[i]? = some m ∧ 0 < m ∧ y = ⟨x.f, x.t, m⟩
  | [], N, h => by simp [leftL] at h
  | x :: F, [], h => by simp [leftL] at h
  | x :: F, m :: N, h => by
    rw [leftL, List.mem_append] at h
    rcases h with h | h
    · by_cases h0 : 0 < m
      · rw [if_pos h0, List.mem_singleton] at h
        exact ⟨0, x, m, rfl, rfl, h0, h⟩
      · rw [if_neg h0] at h; cases h
    · obtain ⟨i, x', m', h1, h2, h3⟩ := leftL_mem h
      exact ⟨i + 1, x', m', by simpa using h1, by simpa using h2, h3⟩
theorem leftL_in {F : List Flw} {N : List Int} : ∀ {i : Nat} {x : Flw} {m : Int}, F[i]? = some x → N[i]? = some m → 0 < m → (⟨x.f, x.t, m⟩ : Flw) ∈ leftL F N := by
  induction F generalizing N with
  | nil => intro i x m h; simp at h
  | cons y F ih =>
    intro i x m h1 h2 h3
    cases N with
    | nil => simp at h2
    | cons k N =>
      rw [leftL, List.mem_append]
      cases i with
      | zero => simp at h1 h2; subst h1 h2; exact .inl (by rw [if_pos h3]; exact List.mem_singleton.2 rfl)
      | succ i => exact .inr (ih (by simpa using h1) (by simpa using h2) h3)
theorem leftL_pw : ∀ {F : List Flw} {N : List Int}, F.Pairwise (fun y x => cfF y x < 0) → (leftL F N).Pairwise fun y x => cfF y x < 0
  | [], N, _ => by simp [leftL]
  | x :: F, [], _ => by simp [leftL]
  | x :: F, m :: N, h => by
    rw [List.pairwise_cons] at h
    have ih := leftL_pw (N := N) h.2
    rw [leftL]
    by_cases h0 : 0 < m
    · rw [if_pos h0, List.singleton_append, List.pairwise_cons]
      refine ⟨fun y hy => ?_, ih⟩
      obtain ⟨i, z, k, h1, _, _, rfl⟩ := leftL_mem hy
      exact h.1 z (List.mem_of_getElem? h1)
    · rw [if_neg h0]; exact ih
theorem leftL_may {F : List Flw} {N : List Int} (h : MayD F) (I : InvN F N) : MayD (leftL F N) := by
  refine MayD.iff.2 ⟨fun y hy => ?_, leftL_pw (MayD.iff.1 h).2⟩
  obtain ⟨i, x, m, h1, h2, h3, rfl⟩ := leftL_mem hy
  have h4 := (MayD.iff.1 h).1 x (List.mem_of_getElem? h1)
  have h5 := I.bnd i x m h1 h2
  simp only [okD, Bool.and_eq_true, decide_eq_true_eq] at h4 ⊢
  exact ⟨⟨h4.1.1, by omega⟩, by omega⟩
/-- How much of a debt there is in a list. -/
def ofF : List Flw → Nat → Nat → Int
  | [], _, _ => 0
  | x :: F, f, t => if x.f = f ∧ x.t = t then x.n else ofF F f t
theorem ofF_at : ∀ {F : List Flw} {k : Nat} {x : Flw} {f t : Nat}, F[k]? = some x → x.f = f → x.t = t → (∀ (j : Nat) (y : Flw), j < k → F[j]? = some y → ¬ (y.f = f ∧ y.t = t)) → ofF F f t = x.n
  | [], k, x, f, t, h, _, _, _ => by simp at h
  | y :: F, 0, x, f, t, h, h1, h2, _ => by simp at h; subst h; exact if_pos ⟨h1, h2⟩
  | y :: F, k + 1, x, f, t, h, h1, h2, h3 => by
    rw [ofF, if_neg (h3 0 y (by omega) rfl)]
    exact ofF_at (by simpa using h) h1 h2 fun j z hj hz => h3 (j + 1) z (by omega) (by simpa using hz)
theorem ofF_no : ∀ {F : List Flw} {f t : Nat}, (∀ y ∈ F, ¬ (y.f = f ∧ y.t = t)) → ofF F f t = 0
  | [], f, t, _ => rfl
  | y :: F, f, t, h => by
    rw [ofF, if_neg (h y List.mem_cons_self)]
    exact ofF_no fun z hz => h z (List.mem_cons_of_mem _ hz)
theorem ofF_uniq {F : List Flw} (h : MayD F) {i : Nat} {x : Flw} (hx : F[i]? = some x) : ofF F x.f x.t = x.n :=
  ofF_at hx rfl rfl fun j y hj hy ⟨h1, h2⟩ => by have := h.uniq hx hy h1.symm h2.symm; omega
theorem ofF_left {F : List Flw} {N : List Int} (h : MayD F) (I : InvN F N) {i : Nat} {x : Flw} {m : Int} (hx : F[i]? = some x) (hm : N[i]? = some m) : ofF (leftL F N) x.f x.t = m := by
  by_cases h0 : 0 < m
  · obtain ⟨j, hj, e⟩ := List.mem_iff_getElem.1 (leftL_in hx hm h0)
    have := ofF_uniq (leftL_may h I) (List.getElem?_eq_getElem hj)
    rw [e] at this
    exact this
  · have h1 := (I.bnd i x m hx hm).1
    have e0 : ofF (leftL F N) x.f x.t = 0 := ofF_no fun y hy ⟨e1, e2⟩ => by
      obtain ⟨j, z, k, g1, g2, g3, rfl⟩ := leftL_mem hy
      have := h.uniq hx g1 e1.symm e2.symm
      subst this
      rw [hm] at g2
      cases g2
      omega
    omega
theorem ofF_was {F : List Flw} {N : List Int} (h : MayD F) (I : InvN F N) {y : Flw} (hy : y ∈ leftL F N) : y.f ≤ 16 ∧ y.t ≤ 16 ∧ 1 ≤ y.n ∧ y.n ≤ ofF F y.f y.t := by
  obtain ⟨i, x, m, h1, h2, h3, rfl⟩ := leftL_mem hy
  have hx := h.okX h1
  have hb := I.bnd i x m h1 h2
  refine ⟨by show x.f ≤ 16; omega, by show x.t ≤ 16; omega, by show 1 ≤ m; omega, ?_⟩
  show m ≤ ofF F x.f x.t
  rw [ofF_uniq h h1]
  exact hb.2
/-- How somebody stands by such debts. -/
def sg (x : Flw) (p : Nat) : Int := (if x.t = p then 1 else 0) - (if x.f = p then 1 else 0)
def dl (L : List Flw) (p : Nat) : Int := (L.map fun x => sg x p * x.n).sum
def dN : List Flw → List Int → Nat → Int
  | x :: F, m :: N, p => sg x p * m + dN F N p
  | _, _, _ => 0
theorem dN_all : ∀ (F : List Flw) (p : Nat), dN F (F.map Flw.n) p = dl F p
  | [], p => rfl
  | x :: F, p => by
    have := dN_all F p
    simp only [List.map_cons, dN, this, dl, List.sum_cons]
theorem dl_left : ∀ {F : List Flw} {N : List Int} (p : Nat), InvN F N → dl (leftL F N) p = dN F N p
  | [], [], p, _ => rfl
  | [], k :: N, p, I => by have := I.len; simp at this
  | x :: F, [], p, I => by have := I.len; simp at this
  | x :: F, m :: N, p, I => by
    have ih := dl_left p I.tail
    have h0 := (I.bnd 0 x m rfl rfl).1
    show dl (_ ++ leftL F N) p = sg x p * m + dN F N p
    unfold dl at ih ⊢
    rw [List.map_append, List.sum_append, ih]
    by_cases h : 0 < m
    · rw [if_pos h]; simp [sg]
    · obtain rfl : m = 0 := by omega
      simp
theorem dN_set : ∀ {F : List Flw} {N : List Int} {i : Nat} {x : Flw} {m : Int} (v : Int) (p : Nat), F[i]? = some x → N[i]? = some m → dN F (N.set i v) p = dN F N p + sg x p * (v - m)
  | [], N, i, x, m, v, p, h, _ => by simp at h
  | y :: F, [], i, x, m, v, p, _, h => by simp at h
  | y :: F, k :: N, 0, x, m, v, p, h1, h2 => by
    simp at h1 h2
    subst h1 h2
    show sg y p * v + dN F N p = sg y p * k + dN F N p + sg y p * (v - k)
    rw [Int.mul_sub]
    omega
  | y :: F, k :: N, i + 1, x, m, v, p, h1, h2 => by
    have ih := dN_set (F := F) (N := N) (i := i) v p (by simpa using h1) (by simpa using h2)
    show sg y p * k + dN F (N.set i v) p = _ + dN F N p + _
    rw [ih]
    omega
def stepSg (F : List Flw) (p : Nat) (s : Nat × Bool) : Int := match F[s.1]? with
  | some x => sg x p * cst s.2
  | none => 0
theorem dN_go (v : Int) (p : Nat) {F : List Flw} : ∀ (S : List (Nat × Bool)) (N : List Int), N.length = F.length → (∀ x ∈ S, x.1 < F.length) → dN F (goS v S N) p = dN F N p + v * (S.map (stepSg F p)).sum
  | [], N, _, _ => by simp [goS]
  | (i, b) :: S, N, hl, h => by
    have hi := h (i, b) List.mem_cons_self
    simp only at hi
    have hx : F[i]? = some F[i] := List.getElem?_eq_getElem hi
    have hm : N[i]? = some (N[i]'(by omega)) := List.getElem?_eq_getElem (by omega)
    rw [goS, dN_go v p S _ (by rw [List.length_set]; exact hl) (fun x hx => h x (List.mem_cons_of_mem _ hx)), dN_set _ p hx hm, List.map_cons, List.sum_cons, Int.mul_add]
    have h1 : stepSg F p (i, b) = sg F[i] p * cst b := by unfold stepSg; rw [hx]
    have h2 : N.getD i 0 = N[i]'(by omega) := by rw [List.getD_eq_getElem?_getD, hm]; rfl
    rw [h1, h2, show N[i]'(by omega) + (if b then v else -v) - N[i]'(by omega) = v * cst b by cases b <;> simp [cst] <;> omega, Int.mul_left_comm]
    omega
theorem dN_round {F : List Flw} {N N' : List Int} (h : MayD F) (I : InvN F N) (hr : roundOf (edD F N) ≠ []) (g : RoundTo F N N') (p : Nat) : dN F N' p = dN F N p := by
  obtain ⟨S, h1, h2, _⟩ := round_go h I hr
  obtain ⟨S', g1, rfl⟩ := g
  obtain rfl := h1.det h g1
  obtain ⟨tf, C, R⟩ := edD_rnd h hr
  rw [dN_go _ p S N I.len fun x hx => (h2 x hx).1]
  generalize roundOf (edD F N) = T at *
  have hS : S.map (stepSg F p) = (List.range T.length).map fun k => (if tf k = p then 1 else 0) - (if tf ((k + 1) % T.length) = p then (1 : Int) else 0) := by
    apply List.ext_getElem?
    intro k
    by_cases hk : k < T.length
    · obtain ⟨i, b, e1, s1⟩ := h1.2 k hk
      have hm : (k + 1) % T.length < T.length := Nat.mod_lt _ (by omega)
      rw [List.getD_eq_getElem?_getD, R.get k hk, List.getD_eq_getElem?_getD, R.get _ hm] at s1
      simp only [Option.getD_some] at s1
      rw [List.getElem?_map, e1, List.getElem?_map, List.getElem?_range hk]
      simp only [Option.map_some, Option.some.injEq]
      obtain ⟨x, m, x1, _⟩ := id s1
      have he := s1.ends x1
      unfold stepSg
      rw [x1]
      simp only
      rcases he with ⟨rfl, e2, e3⟩ | ⟨rfl, e2, e3⟩
      · rw [← e2, ← e3]; simp [sg, cst]; omega
      · rw [← e2, ← e3]; simp [sg, cst]
    · rw [List.getElem?_eq_none (by rw [List.length_map, h1.1]; omega), List.getElem?_eq_none (by simp; omega)]
  rw [hS, rsum_list]
  have : ∀ n, rsum (fun k => (if tf k = p then 1 else 0) - (if tf ((k + 1) % T.length) = p then (1 : Int) else 0)) n = rsum (fun k => if tf k = p then 1 else 0) n - rsum (fun k => if tf ((k + 1) % T.length) = p then 1 else 0) n := by
    intro n
    induction n with
    | zero => rfl
    | succ n ih => simp only [rsum, ih]; omega
  rw [this, rsum_next (fun k => if tf k = p then (1 : Int) else 0) T.length R.pos]
  simp
theorem RdTr.stand {F : List Flw} (h : MayD F) {k : Nat} {N : List Int} (t : RdTr F k N) (p : Nat) : dl (leftL F N) p = dl F p := by
  rw [dl_left p (t.inv h).1]
  induction t with
  | nil => exact dN_all F p
  | @step k N N' a1 a2 a3 ih => rw [dN_round h (a1.inv h).1 a2 a3 p, ih]
theorem leftL_sum : ∀ {F : List Flw} {N : List Int}, InvN F N → ((leftL F N).map Flw.n).sum = N.sum
  | [], [], _ => rfl
  | [], k :: N, I => by have := I.len; simp at this
  | x :: F, [], I => by have := I.len; simp at this
  | x :: F, m :: N, I => by
    have ih := leftL_sum I.tail
    have h0 := (I.bnd 0 x m rfl rfl).1
    show ((_ ++ leftL F N).map Flw.n).sum = (m :: N).sum
    rw [List.map_append, List.sum_append, ih, List.sum_cons]
    by_cases h : 0 < m
    · rw [if_pos h]; simp
    · obtain rfl : m = 0 := by omega
      simp
/-- Where no round is found there is a height for each, and no edge leads up by more than it costs. -/
def HasPot (E : List Edg) : Prop := ∃ D : Nat → Int, (∀ i, -1000000 ≤ D i ∧ D i ≤ 0) ∧ ∀ e ∈ E, D e.t ≤ D e.f + e.c
theorem pot_of {F : List Flw} {N : List Int} (h : MayD F) (hl : F.length ≤ 240) (hr : roundOf (edD F N) = []) : HasPot (edD F N) := by
  cases hs : runS (edD F N) 16 zeroS with
  | some s =>
    obtain ⟨tf, C, R⟩ := round_found (edD_in h) hs
    have := R.pos
    rw [hr] at this
    simp at this
  | none =>
    have hE := edD_ok h (N := N)
    obtain ⟨D, h1, h2⟩ := run_none (F := edD F N) (fun e he => by have := hE e he; exact ⟨by omega, by omega⟩) 16 zeroS 0 (fun i => ⟨by simp [zeroS], by simp [zeroS]⟩) hs
    have := edD_len F N
    exact ⟨D, fun i => by have := h1 i; omega, h2⟩
theorem no_round {E : List Edg} (hE : InH E) (hp : HasPot E) : roundOf E = [] := by
  obtain ⟨D, h1, h2⟩ := hp
  cases hs : runS E 16 zeroS with
  | none => unfold roundOf; rw [hs]
  | some s =>
    exfalso
    obtain ⟨tf, C, R⟩ := round_found hE hs
    have hc := R.cheap
    generalize roundOf E = T at *
    have key : rsum (fun i => D (tf ((i + 1) % T.length)) - D (tf i)) T.length ≤ rsum (fun i => C (tf ((i + 1) % T.length))) T.length := rsum_le _ fun i hi => by
      have := h2 _ (R.edge i hi)
      simp only at this
      omega
    have : ∀ n, rsum (fun i => D (tf ((i + 1) % T.length)) - D (tf i)) n = rsum (fun i => D (tf ((i + 1) % T.length))) n - rsum (fun i => D (tf i)) n := by
      intro n
      induction n with
      | zero => rfl
      | succ n ih => simp only [rsum, ih]; omega
    rw [this, rsum_next (fun i => D (tf i)) T.length R.pos] at key
    omega
theorem HasPot.sub {E E' : List Edg} (h : HasPot E) (hs : ∀ e ∈ E', e ∈ E) : HasPot E' := by
  obtain ⟨D, h1, h2⟩ := h
  exact ⟨D, h1, fun e he => h2 e (hs e he)⟩
/-- What is left, done anew: nothing is to do. -/
theorem left_done {F : List Flw} {N : List Int} (h : MayD F) (I : InvN F N) (hl : F.length ≤ 240) (hr : roundOf (edD F N) = []) : roundOf (edD (leftL F N) ((leftL F N).map Flw.n)) = [] := by
  have hL := leftL_may h I
  refine no_round (edD_in hL) ((pot_of h hl hr).sub fun e he => ?_)
  obtain ⟨i, x, m, h1, h2, h3⟩ := edD_mem.1 he
  rw [List.getElem?_map, h1] at h2
  simp at h2
  subst h2
  rcases h3 with ⟨h3, rfl⟩ | ⟨h3, rfl⟩
  · obtain ⟨j, y, k, g1, g2, g3, rfl⟩ := leftL_mem (List.mem_of_getElem? h1)
    exact edD_mem.2 ⟨j, y, k, g1, g2, .inl ⟨g3, rfl⟩⟩
  · omega
theorem leftL_all : ∀ {F : List Flw}, (∀ x ∈ F, 1 ≤ x.n) → leftL F (F.map Flw.n) = F
  | [], _ => rfl
  | x :: F, h => by
    have ih := leftL_all (F := F) fun y hy => h y (List.mem_cons_of_mem _ hy)
    have hx := h x List.mem_cons_self
    show (if 0 < x.n then [(⟨x.f, x.t, x.n⟩ : Flw)] else []) ++ leftL F (F.map Flw.n) = _
    rw [ih, if_pos (by omega)]
    rfl
theorem MayD.pos {F : List Flw} (h : MayD F) : ∀ x ∈ F, 1 ≤ x.n := fun x hx => by
  obtain ⟨i, hi, rfl⟩ := List.mem_iff_getElem.1 hx
  have := h.okX (List.getElem?_eq_getElem hi)
  omega
end Go.Proofs.Ytgobnamhdkbbeaa

/- A flow read out of a list. -/
namespace Go.Proofs.Ytgobnamhdkbbeaa
open Go.RowKit
theorem rd_flow {w : World} {eb eo : Nat} {F : List Flw} (R : Rd w (some ⟨eb, eo, none⟩) (flwL F)) {k : Nat} {x : Flw} (hx : F[k]? = some x) : w.cell? ⟨eb, eo + k * 3 + 0, none⟩ = some (.int .u8 (x.f : Int)) ∧ w.cell? ⟨eb, eo + k * 3 + 1, none⟩ = some (.int .u8 (x.t : Int)) ∧ w.cell? ⟨eb, eo + k * 3 + 2, none⟩ = some (.int .i64 x.n) := by
  have hk := (List.getElem?_eq_some_iff.1 hx).1
  have hrow := flwL_at F k hk
  rw [(List.getElem?_eq_some_iff.1 hx).2] at hrow
  have hlen : k * 3 + 3 ≤ (flwL F).length := by rw [flwL_len]; omega
  have key : ∀ q v, q < 3 → (flwV x)[q]? = some v → w.cell? ⟨eb, eo + k * 3 + q, none⟩ = some v := fun q v hq hv => by
    have h1 := R.get (i := k * 3 + q) (by omega)
    rw [← Nat.add_assoc] at h1
    rw [h1, ← hv, ← hrow, List.getElem?_take, if_pos hq, List.getElem?_drop, List.getElem?_eq_getElem (by omega)]
  exact ⟨key 0 _ (by omega) rfl, key 1 _ (by omega) rfl, key 2 _ (by omega) rfl⟩
end Go.Proofs.Ytgobnamhdkbbeaa

/- countinghouselaw08: Sum, of. -/
namespace Go.Proofs.Ytgobnamhdkbbeaa
open Go.RowKit
set_option linter.unusedSimpArgs false
set_option linter.unusedVariables false
def sumF (F : List Flw) : Int := (F.map Flw.n).sum
theorem sumF_take {F : List Flw} {k : Nat} {x : Flw} (h : F[k]? = some x) : sumF (F.take (k + 1)) = sumF (F.take k) + x.n := by
  unfold sumF
  rw [List.take_add_one, h, Option.toList_some, List.map_append, List.sum_append]
  simp
theorem sumF_bnd : ∀ (F : List Flw), (∀ x ∈ F, 0 ≤ x.n ∧ x.n ≤ 1099511627776) → 0 ≤ sumF F ∧ sumF F ≤ 1099511627776 * (F.length : Int)
  | [], _ => by simp [sumF]
  | x :: F, h => by
    have h1 := h x List.mem_cons_self
    have h2 := sumF_bnd F fun y hy => h y (List.mem_cons_of_mem _ hy)
    unfold sumF at *
    rw [List.map_cons, List.sum_cons, List.length_cons]
    omega
structure SuR (W : World) (l : List Thing) (F : List Flw) (n : Nat) (s i : Value) (wr : World) : Prop where
  out : ∃ k : Nat, k ≤ n ∧ i = .int .i64 (k : Int) ∧ s = .int .i64 (sumF (F.take k)) ∧ Heap W l wr
structure OfR (W : World) (l : List Thing) (F : List Flw) (f t n : Nat) (i : Value) (wr : World) : Prop where
  out : ∃ k : Nat, k ≤ n ∧ i = .int .i64 (k : Int) ∧ (∀ (j : Nat) (y : Flw), j < k → F[j]? = some y → ¬ (y.f = f ∧ y.t = t)) ∧ Heap W l wr
section
variable {W w : World} {l : List Thing}
set_option maxRecDepth 100000
set_option maxHeartbeats 4000000
theorem sum8_H (a : Option Addr) (n c : Nat) (F : List Flw) (hl : F.length = n) (hn : n ≤ 1000) (hF : ∀ x ∈ F, 0 ≤ x.n ∧ x.n ≤ 1099511627776) (R : ∀ w', Heap W l w' → Rd w' a (flwL F)) :
    AnsH W l 44 #[.slice a n c] (.int .i64 (sumF F)) := by
  intro w H
  have HL := Lib.hid hl
  have HR := Lib.hid R
  have HF := Lib.hid hF
  clear hl R hF
  go_enter Try.func44, Try.ntmps44
  go_wp2_with (go_skip)
  have H0 := H
  clear H
  go_loopw [3, 4] (fun s i wr => SuR W l F n s i wr) (fun _ i _ => n - (intOf i).toNat)
  case atStart => exact ⟨0, Nat.zero_le _, rfl, rfl, H0⟩
  case round =>
    obtain ⟨k, hk, rfl, rfl, H⟩ := hrel.out
    clear H0 hrel
    by_cases hlt : k < n
    · have hfk : F[k]? = some (F[k]'(by rw [HL.out]; exact hlt)) := List.getElem?_eq_getElem _
      generalize F[k]'(by rw [HL.out]; exact hlt) = x at *
      have hb := sumF_bnd (F.take k) fun y hy => HF.out y (List.mem_of_mem_take hy)
      rw [List.length_take, HL.out] at hb
      have hx := HF.out x (List.mem_of_getElem? hfk)
      obtain ⟨eb, eo, rfl, _⟩ := (HR.out _ H).lt (by rw [flwL_len, HL.out]; omega)
      have hc := (rd_flow (HR.out _ H) hfk).2.2
      have HT := Lib.hid (sumF_take hfk)
      clear hfk
      generalize sumF (F.take k) = s at *
      obtain ⟨f, t, y⟩ := x
      simp only at hx hc
      have hb2 : s ≤ 1099511627776000 := by omega
      go_wp2_with (first | go_skip | ((with_reducible show wpList _ _ _ (_ :: _) _ _); (with_reducible apply wpl_loadCell cell_i64); (· rfl); (· rfl); (· exact hc); (simp only [Act.put, List.setIfInBounds_toArray, List.set_cons_zero, List.set_cons_succ])))
      refine ⟨⟨k + 1, by omega, by go_num, ?_, H⟩, ?measure1⟩
      case measure1 => simp [intOf]; omega
      rw [HT.out]
    · obtain rfl : k = n := by omega
      have ht : F.take k = F := List.take_of_length_le (by rw [HL.out]; exact Nat.le_refl _)
      rw [ht]
      go_wp2_with (go_skip)
      go_ret
      exact ⟨rfl, H⟩
theorem of8_H (a : Option Addr) (n c : Nat) (F : List Flw) (f t : Nat) (hl : F.length = n) (hn : n ≤ 1000000) (R : ∀ w', Heap W l w' → Rd w' a (flwL F)) :
    AnsH W l 87 #[.slice a n c, .int .u8 (f : Int), .int .u8 (t : Int)] (.int .i64 (ofF F f t)) := by
  intro w H
  have HL := Lib.hid hl
  have HR := Lib.hid R
  clear hl R
  go_enter Try.func87, Try.ntmps87
  go_wp2_with (go_skip)
  have H0 := H
  clear H
  go_loopw [7] (fun i wr => OfR W l F f t n i wr) (fun i _ => n - (intOf i).toNat)
  case atStart => exact ⟨0, Nat.zero_le _, rfl, fun j y hj => absurd hj (by omega), H0⟩
  case round =>
    obtain ⟨k, hk, rfl, hno, H⟩ := hrel.out
    clear H0 hrel
    have HNO := Lib.hid hno
    clear hno
    by_cases hlt : k < n
    · have hfk : F[k]? = some (F[k]'(by rw [HL.out]; exact hlt)) := List.getElem?_eq_getElem _
      generalize F[k]'(by rw [HL.out]; exact hlt) = x at *
      obtain ⟨eb, eo, rfl, _⟩ := (HR.out _ H).lt (by rw [flwL_len, HL.out]; omega)
      have hc := rd_flow (HR.out _ H) hfk
      obtain ⟨x1, x2, y⟩ := x
      obtain ⟨hc0, hc1, hc2⟩ := hc
      rw [Nat.add_zero] at hc0
      simp only at hc0 hc1 hc2
      have HFK := Lib.hid hfk
      clear hfk
      have hnext : ¬ (x1 = f ∧ x2 = t) → ∀ (j : Nat) (y : Flw), j < k + 1 → F[j]? = some y → ¬ (y.f = f ∧ y.t = t) := fun h j z hj hz => by
        by_cases e : j = k
        · subst e; rw [HFK.out] at hz; cases hz; exact h
        · exact HNO.out j z (by omega) hz
      have HNX := Lib.hid hnext
      clear hnext
      by_cases u1 : x1 = f
      · have e1 : ((x1 : Int) == (f : Int)) = true := by simp; omega
        by_cases u2 : x2 = t
        · have e2 : ((x2 : Int) == (t : Int)) = true := by simp; omega
          have HRES := Lib.hid (show ofF F f t = y from ofF_at HFK.out u1 u2 HNO.out)
          clear u1 u2
          go_wp2_with (first | go_skip | ((with_reducible show wpList _ _ _ (_ :: _) _ _); (with_reducible first | apply wpl_loadCell cell_party | apply wpl_loadCell cell_i64); (· rfl); (· rfl); (· with_reducible first | exact hc0 | exact hc1 | exact hc2); (simp only [Act.put, List.setIfInBounds_toArray, List.set_cons_zero, List.set_cons_succ])))
          go_ret
          rw [HRES.out]
          exact ⟨rfl, H⟩
        · have e2 : ((x2 : Int) == (t : Int)) = false := by simp; omega
          have HQ := Lib.hid (HNX.out fun h => u2 h.2)
          clear u1 u2
          go_wp2_with (first | go_skip | ((with_reducible show wpList _ _ _ (_ :: _) _ _); (with_reducible first | apply wpl_loadCell cell_party | apply wpl_loadCell cell_i64); (· rfl); (· rfl); (· with_reducible first | exact hc0 | exact hc1 | exact hc2); (simp only [Act.put, List.setIfInBounds_toArray, List.set_cons_zero, List.set_cons_succ])))
          refine ⟨⟨k + 1, by omega, by go_num, HQ.out, H⟩, ?measure2⟩
          case measure2 => simp [intOf]; omega
      · have e1 : ((x1 : Int) == (f : Int)) = false := by simp; omega
        have HQ := Lib.hid (HNX.out fun h => u1 h.1)
        clear u1
        go_wp2_with (first | go_skip | ((with_reducible show wpList _ _ _ (_ :: _) _ _); (with_reducible first | apply wpl_loadCell cell_party | apply wpl_loadCell cell_i64); (· rfl); (· rfl); (· with_reducible first | exact hc0 | exact hc1 | exact hc2); (simp only [Act.put, List.setIfInBounds_toArray, List.set_cons_zero, List.set_cons_succ])))
        refine ⟨⟨k + 1, by omega, by go_num, HQ.out, H⟩, ?measure3⟩
        case measure3 => simp [intOf]; omega
    · obtain rfl : k = n := by omega
      have HRES := Lib.hid (show ofF F f t = 0 from ofF_no fun y hy => by
        obtain ⟨j, hj, rfl⟩ := List.mem_iff_getElem.1 hy
        exact HNO.out j _ (by rw [← HL.out]; exact hj) (List.getElem?_eq_getElem hj))
      go_wp2_with (go_skip)
      go_ret
      rw [HRES.out]
      exact ⟨rfl, H⟩
end
end Go.Proofs.Ytgobnamhdkbbeaa

/- Debts of a ledger's currency, as flows; what is left of a ledger, when just so much of them is left. (Plain.) -/
namespace Go.Proofs.Ytgobnamhdkbbeaa
set_option linter.unusedSimpArgs false
set_option linter.unusedVariables false
theorem cfF_asym (x y : Flw) (h : cfF x y < 0) : ¬ cfF y x < 0 := by
  rw [cfF_lt] at *
  omega
/-- The debt of one to another one. -/
def dbt1 (L : List Lin) (c a b : Nat) : List Flw := if 0 < debOf L b a c then [⟨a, b, debOf L b a c⟩] else []
def dbtB (L : List Lin) (c a : Nat) : Nat → List Flw
  | 0 => []
  | b + 1 => dbtB L c a b ++ dbt1 L c a (b + 1)
def dbtA (L : List Lin) (c : Nat) : Nat → List Flw
  | 0 => []
  | a + 1 => dbtA L c a ++ dbtB L c (a + 1) 16
/-- The debts of a currency. -/
@[irreducible] def dbtS (L : List Lin) (c : Nat) : List Flw := dbtA L c 16
theorem dbt1_mem {L : List Lin} {c a b : Nat} {y : Flw} : y ∈ dbt1 L c a b ↔ y.f = a ∧ y.t = b ∧ 0 < y.n ∧ debOf L y.t y.f c = y.n := by
  unfold dbt1
  obtain ⟨f, t, n⟩ := y
  split
  · rename_i h
    simp only [List.mem_singleton, Flw.mk.injEq]
    constructor
    · rintro ⟨rfl, rfl, rfl⟩; exact ⟨rfl, rfl, h, rfl⟩
    · rintro ⟨rfl, rfl, h1, rfl⟩; exact ⟨rfl, rfl, rfl⟩
  · rename_i h
    simp only [List.not_mem_nil, false_iff]
    rintro ⟨rfl, rfl, h1, rfl⟩
    exact h h1
theorem dbtB_mem {L : List Lin} {c a : Nat} {y : Flw} : ∀ {k : Nat}, y ∈ dbtB L c a k ↔ y.f = a ∧ (1 ≤ y.t ∧ y.t ≤ k) ∧ 0 < y.n ∧ debOf L y.t y.f c = y.n
  | 0 => by simp [dbtB]; omega
  | k + 1 => by
    rw [dbtB, List.mem_append, dbtB_mem, dbt1_mem]
    constructor
    · rintro (⟨h1, h2, h3⟩ | ⟨h1, h2, h3⟩)
      · exact ⟨h1, by omega, h3⟩
      · exact ⟨h1, by omega, h3⟩
    · rintro ⟨h1, h2, h3⟩
      by_cases e : y.t = k + 1
      · exact .inr ⟨h1, e, h3⟩
      · exact .inl ⟨h1, by omega, h3⟩
theorem dbtA_mem {L : List Lin} {c : Nat} {y : Flw} : ∀ {k : Nat}, y ∈ dbtA L c k ↔ (1 ≤ y.f ∧ y.f ≤ k) ∧ (1 ≤ y.t ∧ y.t ≤ 16) ∧ 0 < y.n ∧ debOf L y.t y.f c = y.n
  | 0 => by simp [dbtA]; omega
  | k + 1 => by
    rw [dbtA, List.mem_append, dbtA_mem, dbtB_mem]
    constructor
    · rintro (⟨h1, h2⟩ | ⟨h1, h2⟩)
      · exact ⟨by omega, h2⟩
      · exact ⟨by omega, h2⟩
    · rintro ⟨h1, h2⟩
      by_cases e : y.f = k + 1
      · exact .inr ⟨e, h2⟩
      · exact .inl ⟨by omega, h2⟩
theorem dbtB_pw {L : List Lin} {c a : Nat} : ∀ k : Nat, (dbtB L c a k).Pairwise fun y x => cfF y x < 0
  | 0 => .nil
  | k + 1 => by
    rw [dbtB, List.pairwise_append]
    refine ⟨dbtB_pw k, by unfold dbt1; split <;> simp, fun x hx y hy => ?_⟩
    have h1 := dbtB_mem.1 hx
    have h2 := dbt1_mem.1 hy
    exact (cfF_lt _ _).2 (by omega)
theorem dbtA_pw {L : List Lin} {c : Nat} : ∀ k : Nat, (dbtA L c k).Pairwise fun y x => cfF y x < 0
  | 0 => .nil
  | k + 1 => by
    rw [dbtA, List.pairwise_append]
    refine ⟨dbtA_pw k, dbtB_pw 16, fun x hx y hy => ?_⟩
    have h1 := dbtA_mem.1 hx
    have h2 := dbtB_mem.1 hy
    exact (cfF_lt _ _).2 (by omega)
section
variable {S : Lgr} {c : Nat}
theorem dbtS_mem {L : List Lin} {y : Flw} : y ∈ dbtS L c ↔ (1 ≤ y.f ∧ y.f ≤ 16) ∧ (1 ≤ y.t ∧ y.t ≤ 16) ∧ 0 < y.n ∧ debOf L y.t y.f c = y.n := by unfold dbtS; exact dbtA_mem
theorem dbtS_pw (L : List Lin) : (dbtS L c).Pairwise fun y x => cfF y x < 0 := by unfold dbtS; exact dbtA_pw 16
theorem Lgr.Good.dbt (G : S.Good) (c : Nat) : MayD (dbtS S.L c) := by
  refine MayD.iff.2 ⟨fun y hy => ?_, dbtS_pw _⟩
  obtain ⟨h1, h2, h3, h4⟩ := dbtS_mem.1 hy
  have h5 := G.nums y.t y.f c
  have h6 : y.f ≠ y.t := fun e => by
    have := (Lgr.Good.noLine (G.noSelf y.t c)).2.2
    rw [e] at h4
    omega
  simp [okD, mayP]
  omega
/-- A line, as a flow. -/
def flwOf (x : Lin) : Flw := ⟨x.db.toNat, x.cr.toNat, x.deb⟩
def owes (c : Nat) (x : Lin) : Bool := (x.cu == (c : Int)) && decide (0 < x.deb)
def keptD (L : List Lin) (c : Nat) : List Flw := (L.filter (owes c)).map flwOf
theorem keptD_mem (G : S.Good) {y : Flw} : y ∈ keptD S.L c ↔ y ∈ dbtS S.L c := by
  rw [dbtS_mem]
  unfold keptD
  rw [List.mem_map]
  constructor
  · rintro ⟨x, hx, rfl⟩
    obtain ⟨hx, ho⟩ := List.mem_filter.1 hx
    unfold owes at ho
    simp at ho
    have hs := G.small hx
    have hv := G.vals hx
    unfold flwOf
    simp only
    refine ⟨by omega, by omega, ho.2, ?_⟩
    have e1 : ((x.cr.toNat : Nat) : Int) = x.cr := by omega
    have e2 : ((x.db.toNat : Nat) : Int) = x.db := by omega
    rw [e1, e2, ← ho.1]
    exact hv.2.2.1
  · rintro ⟨h1, h2, h3, h4⟩
    rcases G.split y.t y.f c with ⟨x, hx, e1, e2, e3, _, _, e4, _⟩ | ⟨_, _, _, e4, _⟩
    · refine ⟨x, List.mem_filter.2 ⟨hx, ?_⟩, ?_⟩
      · unfold owes
        simp
        exact ⟨e3, by omega⟩
      · unfold flwOf
        obtain ⟨f, t, n⟩ := y
        simp only at *
        rw [e1, e2, ← e4, h4]
        simp
    · omega
theorem flwOf_inj (G : S.Good) {x y : Lin} (hx : x ∈ S.L) (hy : y ∈ S.L) (hc : x.cu = y.cu) (h : flwOf x = flwOf y) : x = y := by
  have h1 := G.small hx
  have h2 := G.small hy
  unfold flwOf at h
  simp only [Flw.mk.injEq] at h
  refine G.uniq hx hy ?_
  unfold Lin.rank
  omega
theorem keptD_perm (G : S.Good) (c : Nat) : (keptD S.L c).Perm (dbtS S.L c) := by
  refine perm_of_nodup ?_ (pw_nodup (fun x h => absurd h (cfF_asym _ _ h)) (dbtS_pw _)) fun z => keptD_mem G
  refine nodup_map_on ((pw_nodup (fun x h => absurd h (by omega)) G.ord).filter _) fun x hx y hy e => ?_
  obtain ⟨hx1, hx2⟩ := List.mem_filter.1 hx
  obtain ⟨hy1, hy2⟩ := List.mem_filter.1 hy
  unfold owes at hx2 hy2
  simp at hx2 hy2
  exact flwOf_inj G hx1 hy1 (by omega) e
theorem Lgr.Good.dbt_few (G : S.Good) (c : Nat) : (dbtS S.L c).length ≤ 64 := by
  rw [← (keptD_perm G c).length_eq]
  unfold keptD
  rw [List.length_map]
  exact Nat.le_trans (List.length_filter_le ..) G.few
theorem sum_keptD (f : Flw → Int) (g : Lin → Int) (c : Nat) : ∀ (L : List Lin), (∀ x ∈ L, (if owes c x = true then f (flwOf x) else 0) = g x) → ((keptD L c).map f).sum = (L.map g).sum
  | [], _ => rfl
  | x :: L, h => by
    have ih := sum_keptD f g c L fun y hy => h y (List.mem_cons_of_mem _ hy)
    have hx := h x List.mem_cons_self
    unfold keptD at *
    rw [List.filter_cons]
    by_cases ho : owes c x = true
    · rw [if_pos ho] at hx ⊢
      simp only [List.map_cons, List.sum_cons, ih, hx]
    · rw [if_neg ho] at hx ⊢
      simp only [List.map_cons, List.sum_cons, ih, ← hx]
      omega
/-- The total of a currency is the sum of its debts. -/
theorem Lgr.Good.tot_dbt (G : S.Good) (c : Nat) : totL S.L c = sumF (dbtS S.L c) := by
  unfold sumF
  rw [← perm_sumI ((keptD_perm G c).map Flw.n)]
  refine (sum_keptD _ _ c S.L fun x hx => ?_).symm
  have := (G.ok x hx).deb
  unfold owes flwOf
  by_cases h1 : x.cu = (c : Int) <;> by_cases h2 : 0 < x.deb <;> simp [h1, h2]
  omega
theorem Lgr.Good.pos_dbt (G : S.Good) (c p : Nat) : posL S.L p c = dl (dbtS S.L c) p := by
  unfold dl
  rw [← perm_sumI ((keptD_perm G c).map _)]
  refine (sum_keptD _ _ c S.L fun x hx => ?_).symm
  have h0 := (G.ok x hx).deb
  have hs := G.small hx
  have e1 : (x.cr.toNat = p) ↔ (x.cr = (p : Int)) := by omega
  have e2 : (x.db.toNat = p) ↔ (x.db = (p : Int)) := by omega
  unfold owes flwOf sg
  simp only [e1, e2]
  by_cases h1 : x.cu = (c : Int) <;> by_cases h2 : 0 < x.deb <;> by_cases h3 : x.cr = (p : Int) <;> by_cases h4 : x.db = (p : Int) <;> simp [h1, h2, h3, h4] <;> omega
end
end Go.Proofs.Ytgobnamhdkbbeaa

/- Nettings of a ledger: what they make of it. (Plain.) -/
namespace Go.Proofs.Ytgobnamhdkbbeaa
set_option linter.unusedSimpArgs false
set_option linter.unusedVariables false
/-- The lines, when of a currency just these debts are left. -/
def netX (c : Nat) (Q : List Flw) (x : Lin) : Lin := if x.cu = (c : Int) then { x with deb := ofF Q x.db.toNat x.cr.toNat } else x
def netL (L : List Lin) (c : Nat) (Q : List Flw) : List Lin := L.map (netX c Q)
/-- What is gone of each debt is forgiven, one behind the other. -/
def forgL (S : Lgr) (c : Nat) (Q : List Flw) (F : List Flw) : Lgr := F.foldl (fun S x => forgS S x.t x.f c (x.n - ofF Q x.f x.t)) S
theorem forgL_snoc (S : Lgr) (c : Nat) (Q F : List Flw) (x : Flw) : forgL S c Q (F ++ [x]) = forgS (forgL S c Q F) x.t x.f c (x.n - ofF Q x.f x.t) := by unfold forgL; rw [List.foldl_append]; rfl
theorem forgL_take (S : Lgr) (c : Nat) (Q : List Flw) {F : List Flw} {k : Nat} {x : Flw} (h : F[k]? = some x) : forgL S c Q (F.take (k + 1)) = forgS (forgL S c Q (F.take k)) x.t x.f c (x.n - ofF Q x.f x.t) := by
  rw [List.take_add_one, h, Option.toList_some, forgL_snoc]
theorem forgL_good {S : Lgr} (G : S.Good) (c : Nat) (Q : List Flw) : ∀ F : List Flw, (forgL S c Q F).Good := by
  intro F
  unfold forgL
  induction F generalizing S with
  | nil => exact G
  | cons x F ih => exact ih (G.forg _ _ _ _)
theorem forgL_par (c : Nat) (Q : List Flw) : ∀ (F : List Flw) (S : Lgr), (forgL S c Q F).P = S.P
  | [], S => rfl
  | x :: F, S => by
    show (forgL (forgS S x.t x.f c (x.n - ofF Q x.f x.t)) c Q F).P = S.P
    rw [forgL_par c Q F]
    unfold forgS
    split <;> rfl
theorem forg_add {S : Lgr} (G : S.Good) {a b c : Nat} {n : Int} (h0 : 0 ≤ n) (h1 : n ≤ debOf S.L b a c) (h2 : 0 < debOf S.L b a c) : forgS S b a c n = ⟨S.P, addL S.L b a c (-n)⟩ := by
  by_cases e : n < 1
  · obtain rfl : n = 0 := by omega
    unfold forgS forgE
    simp [addL_zero]
  · have hl : isLine S.L b a c = true := by
      cases h : isLine S.L (b : Int) (a : Int) (c : Int) with
      | true => rfl
      | false => have := (Lgr.Good.noLine h).2.2; omega
    have hE : forgE S b a c n = 0 := by
      unfold forgE
      rw [if_neg e, hl, if_neg (by simp), if_neg (by omega)]
    unfold forgS
    rw [if_pos hE]
def atX (c : Nat) (x : Flw) (y : Lin) : Bool := y.at x.t x.f c
def lessX (c : Nat) (Q : List Flw) (y : Lin) (x : Flw) : Lin := if atX c x y then { y with deb := y.deb + -(x.n - ofF Q x.f x.t) } else y
/-- What debts there are behind the first ones are forgiven: the others stand as they were. -/
theorem forgL_lines (c : Nat) (Q : List Flw) : ∀ (F : List Flw) (S : Lgr), S.Good → F.Pairwise (fun y x => cfF y x < 0) → (∀ x ∈ F, 0 < x.n ∧ debOf S.L x.t x.f c = x.n ∧ 0 ≤ ofF Q x.f x.t ∧ ofF Q x.f x.t ≤ x.n) →
    (forgL S c Q F).L = S.L.map fun y => F.foldl (lessX c Q) y
  | [], S, _, _, _ => by simp [forgL]
  | x :: F, S, G, hp, h => by
    have h1 := h x List.mem_cons_self
    rw [List.pairwise_cons] at hp
    have e : forgS S x.t x.f c (x.n - ofF Q x.f x.t) = ⟨S.P, addL S.L x.t x.f c (-(x.n - ofF Q x.f x.t))⟩ := forg_add G (by omega) (by omega) (by omega)
    show (forgL (forgS S x.t x.f c (x.n - ofF Q x.f x.t)) c Q F).L = _
    rw [forgL_lines c Q F _ (G.forg _ _ _ _) hp.2 fun y hy => by
      have h2 := h y (List.mem_cons_of_mem _ hy)
      refine ⟨h2.1, ?_, h2.2.2⟩
      have h3 := (cfF_lt _ _).1 (hp.1 y hy)
      rw [e, debOf_add, if_neg (by rintro ⟨_, h4, h5, _⟩; omega)]
      omega, e]
    simp only [addL, List.map_map]
    refine List.map_congr_left fun y _ => ?_
    show _ = F.foldl (lessX c Q) (lessX c Q y x)
    rfl
theorem lessX_no (c : Nat) (Q : List Flw) : ∀ (F : List Flw) (y : Lin), (∀ x ∈ F, atX c x y = false) → F.foldl (lessX c Q) y = y
  | [], y, _ => rfl
  | x :: F, y, h => by
    have : lessX c Q y x = y := by unfold lessX; rw [if_neg (by rw [h x List.mem_cons_self]; simp)]
    rw [List.foldl_cons, this]
    exact lessX_no c Q F y fun z hz => h z (List.mem_cons_of_mem _ hz)
theorem lessX_one (c : Nat) (Q : List Flw) {y : Lin} {x : Flw} : ∀ {F : List Flw}, F.Pairwise (fun y x => cfF y x < 0) → x ∈ F → atX c x y = true → F.foldl (lessX c Q) y = { y with deb := y.deb + -(x.n - ofF Q x.f x.t) }
  | [], _, h, _ => by cases h
  | z :: F, hp, h, ha => by
    rw [List.pairwise_cons] at hp
    have ha' := Lin.at_iff.1 (show y.at x.t x.f c = true from ha)
    rw [List.foldl_cons]
    rcases List.mem_cons.1 h with rfl | h
    · have e : lessX c Q y x = { y with deb := y.deb + -(x.n - ofF Q x.f x.t) } := by unfold lessX; rw [if_pos ha]
      rw [e]
      refine lessX_no c Q F _ fun w hw => ?_
      unfold atX
      rw [Lin.at_not]
      simp only
      have := (cfF_lt _ _).1 (hp.1 w hw)
      omega
    · have e : lessX c Q y z = y := by
        unfold lessX
        rw [if_neg ?_]
        intro hz
        have := Lin.at_iff.1 (show y.at z.t z.f c = true from hz)
        have := (cfF_lt _ _).1 (hp.1 x h)
        omega
      rw [e]
      exact lessX_one c Q hp.2 h ha
section
variable {S : Lgr} {c : Nat} {N : List Int}
theorem dbtS_at {y : Flw} (h : y ∈ dbtS S.L c) : ∃ i : Nat, (dbtS S.L c)[i]? = some y := List.mem_iff_getElem?.1 h
theorem left_bnd (G : S.Good) (I : InvN (dbtS S.L c) N) {x : Flw} (h : x ∈ dbtS S.L c) : 0 ≤ ofF (leftL (dbtS S.L c) N) x.f x.t ∧ ofF (leftL (dbtS S.L c) N) x.f x.t ≤ x.n := by
  obtain ⟨i, hi⟩ := dbtS_at h
  have hlt := (List.getElem?_eq_some_iff.1 hi).1
  have hm : N[i]? = some (N[i]'(by rw [I.len]; exact hlt)) := List.getElem?_eq_getElem _
  rw [ofF_left (G.dbt c) I hi hm]
  exact I.bnd i x _ hi hm
theorem ofF_out {F : List Flw} {N : List Int} {f t : Nat} (h : ∀ y ∈ F, ¬ (y.f = f ∧ y.t = t)) : ofF (leftL F N) f t = 0 := ofF_no fun y hy ⟨h1, h2⟩ => by
  obtain ⟨i, x, m, g1, _, _, rfl⟩ := leftL_mem hy
  exact h x (List.mem_of_getElem? g1) ⟨h1, h2⟩
/-- Behind all that is forgiven just what is left is left. -/
theorem forgL_all (G : S.Good) (I : InvN (dbtS S.L c) N) : forgL S c (leftL (dbtS S.L c) N) (dbtS S.L c) = ⟨S.P, netL S.L c (leftL (dbtS S.L c) N)⟩ := by
  have h1 : (forgL S c (leftL (dbtS S.L c) N) (dbtS S.L c)).L = netL S.L c (leftL (dbtS S.L c) N) := by
    rw [forgL_lines c _ _ S G (dbtS_pw _) fun x hx => by
      have h2 := dbtS_mem.1 hx
      exact ⟨h2.2.2.1, h2.2.2.2, left_bnd G I hx⟩]
    unfold netL
    refine List.map_congr_left fun y hy => ?_
    have hs := G.small hy
    have hok := (G.ok y hy).deb
    have e1 : ((y.cr.toNat : Nat) : Int) = y.cr := by omega
    have e2 : ((y.db.toNat : Nat) : Int) = y.db := by omega
    unfold netX
    by_cases hc : y.cu = (c : Int)
    · rw [if_pos hc]
      by_cases h0 : 0 < y.deb
      · have hin : flwOf y ∈ dbtS S.L c := (keptD_mem G).1 (List.mem_map.2 ⟨y, List.mem_filter.2 ⟨hy, by simp [owes, hc, h0]⟩, rfl⟩)
        rw [lessX_one c _ (dbtS_pw _) hin (Lin.at_iff.2 ⟨e1.symm, e2.symm, hc⟩)]
        unfold flwOf
        simp only
        congr 1
        omega
      · have h00 : y.deb = 0 := by omega
        have hno : ∀ x ∈ dbtS S.L c, ¬ (x.f = y.db.toNat ∧ x.t = y.cr.toNat) := fun x hx ⟨a1, a2⟩ => by
          have h2 := dbtS_mem.1 hx
          have h3 := (G.vals hy).2.2.1
          rw [a1, a2, e1, e2, ← hc, h3] at h2
          omega
        rw [lessX_no _ _ _ _ fun x hx => by
          unfold atX
          rw [Lin.at_not]
          intro h
          exact hno x hx (by omega), ofF_out hno, ← h00]
    · rw [if_neg hc, lessX_no _ _ _ _ fun x hx => by
        unfold atX
        rw [Lin.at_not]
        intro h
        exact hc h.2.2]
  have h2 := forgL_par c (leftL (dbtS S.L c) N) (dbtS S.L c) S
  cases hf : forgL S c (leftL (dbtS S.L c) N) (dbtS S.L c) with
  | mk P L => rw [hf] at h1 h2; simp only at h1 h2; rw [h1, h2]
theorem net_good (G : S.Good) (I : InvN (dbtS S.L c) N) : (⟨S.P, netL S.L c (leftL (dbtS S.L c) N)⟩ : Lgr).Good := by rw [← forgL_all G I]; exact forgL_good G _ _ _
theorem lineOf_net (L : List Lin) (Q : List Flw) (a b d : Int) : lineOf (netL L c Q) a b d = (lineOf L a b d).map (netX c Q) := by
  unfold lineOf netL
  rw [List.find?_map]
  congr 1
  refine congrArg (fun f => List.find? f L) ?_
  funext x
  simp only [Function.comp, netX]
  split <;> rfl
theorem debOf_net (G : S.Good) (I : InvN (dbtS S.L c) N) (a b : Nat) (ha : 1 ≤ a ∧ a ≤ 16) (hb : 1 ≤ b ∧ b ≤ 16) : debOf (netL S.L c (leftL (dbtS S.L c) N)) b a c = ofF (leftL (dbtS S.L c) N) a b := by
  unfold debOf
  rw [lineOf_net]
  cases h : lineOf S.L (b : Int) (a : Int) (c : Int) with
  | none =>
    simp only [Option.map_none, Option.getD_none]
    refine (ofF_out fun y hy ⟨h1, h2⟩ => ?_).symm
    have h3 := dbtS_mem.1 hy
    have : debOf S.L b a c = 0 := by unfold debOf; rw [h]; rfl
    rw [h1, h2, this] at h3
    omega
  | some x =>
    obtain ⟨_, e1, e2, e3⟩ := lineOf_mem h
    simp only [Option.map_some, Option.getD_some]
    unfold netX
    rw [if_pos e3, e1, e2]
    simp
/-- The debts behind it are those left. -/
theorem dbt_net (G : S.Good) (I : InvN (dbtS S.L c) N) : dbtS (netL S.L c (leftL (dbtS S.L c) N)) c = leftL (dbtS S.L c) N := by
  have hM := G.dbt c
  refine pw_ext cfF_asym (dbtS_pw _) (leftL_pw (dbtS_pw _)) fun y => ?_
  rw [dbtS_mem]
  constructor
  · rintro ⟨h1, h2, h3, h4⟩
    rw [debOf_net G I _ _ h1 h2] at h4
    obtain ⟨x, hx, e1, e2⟩ : ∃ x ∈ dbtS S.L c, x.f = y.f ∧ x.t = y.t := by
      refine Classical.byContradiction fun hno => ?_
      rw [ofF_out fun x hx h => hno ⟨x, hx, h⟩] at h4
      omega
    obtain ⟨i, hi⟩ := dbtS_at hx
    have hlt := (List.getElem?_eq_some_iff.1 hi).1
    have hm : N[i]? = some (N[i]'(by rw [I.len]; exact hlt)) := List.getElem?_eq_getElem _
    have h5 := ofF_left hM I hi hm
    rw [e1, e2, h4] at h5
    have := leftL_in hi hm (by omega)
    rw [e1, e2, ← h5] at this
    exact this
  · intro hy
    have h1 := ofF_was hM I hy
    obtain ⟨i, x, m, g1, g2, g3, rfl⟩ := leftL_mem hy
    have h2 := hM.okX g1
    refine ⟨⟨h2.1, h2.2.1⟩, ⟨h2.2.2.1, h2.2.2.2.1⟩, g3, ?_⟩
    rw [debOf_net G I _ _ ⟨h2.1, h2.2.1⟩ ⟨h2.2.2.1, h2.2.2.2.1⟩]
    exact ofF_left hM I g1 g2
theorem dbt_other (L : List Lin) (Q : List Flw) {d : Nat} (hd : d ≠ c) : dbtS (netL L c Q) d = dbtS L d := by
  refine pw_ext cfF_asym (dbtS_pw _) (dbtS_pw _) fun y => ?_
  rw [dbtS_mem, dbtS_mem]
  have : debOf (netL L c Q) y.t y.f d = debOf L y.t y.f d := by
    unfold debOf
    rw [lineOf_net]
    cases h : lineOf L (y.t : Int) (y.f : Int) (d : Int) with
    | none => rfl
    | some x =>
      obtain ⟨_, e1, e2, e3⟩ := lineOf_mem h
      simp only [Option.map_some, Option.getD_some]
      unfold netX
      rw [if_neg (by omega)]
  rw [this]
end
/-- What a netting answers (how much is gone, by how many rounds, what is wrong), and makes of a ledger. -/
def NetOut (S : Lgr) (c : Nat) (q : Int) (n k e : Int) (S' : Lgr) : Prop :=
  ((c < 1 ∨ 8 < c) ∧ n = 0 ∧ k = 0 ∧ e = 1 ∧ S' = S) ∨
  ((1 ≤ c ∧ c ≤ 8) ∧ ∃ Q k0, LeastOut 13 (dbtS S.L c) q Q k0 e ∧ ((e ≠ 0 ∧ n = 0 ∧ k = 0 ∧ S' = S) ∨ (e = 0 ∧ k = k0 ∧ S' = forgL S c Q (dbtS S.L c) ∧ n = totL S.L c - totL S'.L c)))
theorem NetOut.det {S : Lgr} {c : Nat} {q n k e n' k' e' : Int} {S1 S2 : Lgr} (h : NetOut S c q n k e S1) (g : NetOut S c q n' k' e' S2) : n = n' ∧ k = k' ∧ e = e' ∧ S1 = S2 := by
  rcases h with ⟨h1, rfl, rfl, rfl, rfl⟩ | ⟨h1, Q, k0, h2, h3⟩
  · rcases g with ⟨g1, rfl, rfl, rfl, rfl⟩ | ⟨g1, _⟩
    · exact ⟨rfl, rfl, rfl, rfl⟩
    · omega
  · rcases g with ⟨g1, rfl, rfl, rfl, rfl⟩ | ⟨g1, Q2, k2, g2, g3⟩
    · omega
    · obtain ⟨rfl, rfl, rfl⟩ := h2.det g2
      rcases h3 with ⟨h3, rfl, rfl, rfl⟩ | ⟨rfl, rfl, rfl, rfl⟩
      · rcases g3 with ⟨g3, rfl, rfl, rfl⟩ | ⟨g3, _⟩
        · exact ⟨rfl, rfl, rfl, rfl⟩
        · omega
      · rcases g3 with ⟨g3, _⟩ | ⟨_, rfl, rfl, rfl⟩
        · omega
        · exact ⟨rfl, rfl, rfl, rfl⟩
theorem NetOut.good {S : Lgr} (G : S.Good) {c : Nat} {q n k e : Int} {S' : Lgr} (h : NetOut S c q n k e S') : S'.Good := by
  rcases h with ⟨_, _, _, _, rfl⟩ | ⟨_, Q, k0, _, ⟨_, _, _, rfl⟩ | ⟨_, _, rfl, _⟩⟩
  · exact G
  · exact G
  · exact forgL_good G _ _ _
end Go.Proofs.Ytgobnamhdkbbeaa

/- slices.Clip of flows. -/
namespace Go.Proofs.Ytgobnamhdkbbeaa
open Go.RowKit
set_option linter.unusedSimpArgs false
set_option linter.unusedVariables false
set_option maxRecDepth 100000
theorem clipF_nil : Ans 89 #[.slice none 0 0] (.slice none 0 0) := by
  intro w
  go_enter Try.func89, Try.ntmps89
  go_wp2
  go_ret
  exact ⟨rfl, (by repeat (first | exact Ext.refl _ | refine Ext.alloc ?_ _ | refine Ext.ext ?_ _ | refine Ext.drew ?_))⟩
theorem clipF (a : Addr) (n c : Nat) (hn : n ≤ c) (hc : c ≤ maxLen) : Ans 89 #[.slice (some a) n c] (.slice (some a) n n) := by
  intro w
  unfold maxLen at hc
  have ha : a.add 0 = a := by simp [Addr.add]
  go_enter Try.func89, Try.ntmps89
  go_wp2
  go_ret
  exact ⟨rfl, (by repeat (first | exact Ext.refl _ | refine Ext.alloc ?_ _ | refine Ext.ext ?_ _ | refine Ext.drew ?_))⟩
theorem RowT.nil7 {w : World} {e size n : Nat} {v : Value} {xs : List Value} (h : (RowT e size v n xs).ok w) : ∀ n' c', v = .slice none n' c' → n' = 0 ∧ c' = 0 := by
  intro n' c' e
  rcases h.2 with ⟨h1, _⟩ | ⟨g, cap, cur, h1, _⟩
  · rw [h1] at e; cases e; exact ⟨rfl, rfl⟩
  · rw [h1] at e; cases e
theorem clipFA (a : Option Addr) (n c : Nat) (hn : n ≤ c) (hm : c ≤ maxLen) (h0 : a = none → n = 0 ∧ c = 0) : Ans 89 #[.slice a n c] (.slice a n n) := by
  cases a with
  | none => obtain ⟨rfl, rfl⟩ := h0 rfl; exact clipF_nil
  | some a => exact clipF a n c hn hm
theorem flwL_app (F G : List Flw) : flwL (F ++ G) = flwL F ++ flwL G := by simp [flwL]
theorem flowC_one (f t n : Int) : OneCells (flow f t n).toList := by
  intro u hu
  simp [flow] at hu
  rcases hu with rfl | rfl | rfl <;> rfl
end Go.Proofs.Ytgobnamhdkbbeaa

/- Ledgers as lists: the document's ways to make them (a line set in its place; a party put among others). -/
namespace Go.Proofs.Ytgobnamhdkbbeaa
/-- A line set in its place, going through the lines (put: it is put already, or is none). -/
def setR (x : Lin) : List Lin → Bool → List Lin
  | [], put => if put then [] else [x]
  | y :: ys, put => if y.rank = x.rank then setR x ys put else if put = false ∧ x.rank < y.rank then x :: y :: setR x ys true else y :: setR x ys put
theorem setR_true (x : Lin) : ∀ L : List Lin, setR x L true = L.filter fun y => decide (y.rank ≠ x.rank)
  | [] => rfl
  | y :: ys => by
    unfold setR
    by_cases h : y.rank = x.rank
    · rw [if_pos h, setR_true x ys, List.filter_cons_of_neg (by simp [h])]
    · rw [if_neg h, if_neg (by simp), setR_true x ys, List.filter_cons_of_pos (by simp [h])]
theorem setR_gt (x : Lin) : ∀ L : List Lin, (∀ y ∈ L, x.rank < y.rank) → setR x L false = x :: L
  | [], _ => rfl
  | y :: ys, h => by
    have h1 := h y (List.mem_cons_self ..)
    unfold setR
    rw [if_neg (by omega), if_pos ⟨rfl, h1⟩, setR_true, List.filter_eq_self.2]
    intro z hz
    have := h z (List.mem_cons_of_mem _ hz)
    simp; omega
theorem filter_none {α : Type} {p : α → Bool} {l : List α} (h : ∀ y ∈ l, p y = false) : l.filter p = [] := by
  rw [List.filter_eq_nil_iff]
  intro y hy
  rw [h y hy]
  exact Bool.false_ne_true
theorem setR_false (x : Lin) : ∀ L : List Lin, L.Pairwise (fun x y => x.rank < y.rank) → setR x L false = L.filter (fun y => decide (y.rank < x.rank)) ++ x :: L.filter (fun y => decide (x.rank < y.rank))
  | [], _ => rfl
  | y :: ys, h => by
    have h1 := List.pairwise_cons.1 h
    rcases Int.lt_trichotomy y.rank x.rank with h' | h' | h'
    · unfold setR
      rw [if_neg (by omega), if_neg (by omega), setR_false x ys h1.2, List.filter_cons_of_pos (by simpa using h'), List.filter_cons_of_neg (by simp; omega)]
      rfl
    · unfold setR
      rw [if_pos h', setR_gt x ys (fun z hz => by have := h1.1 z hz; omega), List.filter_cons_of_neg (by simp; omega), List.filter_cons_of_neg (by simp; omega), filter_none (fun z hz => by have := h1.1 z hz; simp; omega), List.filter_eq_self.2 (fun z hz => by have := h1.1 z hz; simp; omega)]
      rfl
    · rw [setR_gt x (y :: ys) (fun z hz => by
        rcases List.mem_cons.1 hz with rfl | hz
        · exact h'
        · have := h1.1 z hz; omega)]
      rw [filter_none (fun z hz => by
        rcases List.mem_cons.1 hz with rfl | hz
        · simp; omega
        · have := h1.1 z hz; simp; omega), List.filter_eq_self.2 (fun z hz => by
        rcases List.mem_cons.1 hz with rfl | hz
        · simp; omega
        · have := h1.1 z hz; simp; omega)]
      rfl
theorem filter_ne_split {r : Int} : ∀ L : List Lin, L.Pairwise (fun x y => x.rank < y.rank) → L.filter (fun y => decide (y.rank ≠ r)) = L.filter (fun y => decide (y.rank < r)) ++ L.filter (fun y => decide (r < y.rank))
  | [], _ => rfl
  | y :: ys, h => by
    have h1 := List.pairwise_cons.1 h
    rcases Int.lt_trichotomy y.rank r with h' | h' | h'
    · rw [List.filter_cons_of_pos (by simp; omega), List.filter_cons_of_pos (by simpa using h'), List.filter_cons_of_neg (by simp; omega), filter_ne_split ys h1.2]; rfl
    · rw [List.filter_cons_of_neg (by simp; omega), List.filter_cons_of_neg (by simp; omega), List.filter_cons_of_neg (by simp; omega), filter_ne_split ys h1.2]
    · rw [List.filter_eq_self.2 (fun z hz => by
        rcases List.mem_cons.1 hz with rfl | hz
        · simp; omega
        · have := h1.1 z hz; simp; omega), filter_none (fun z hz => by
        rcases List.mem_cons.1 hz with rfl | hz
        · simp; omega
        · have := h1.1 z hz; simp; omega), List.filter_eq_self.2 (fun z hz => by
        rcases List.mem_cons.1 hz with rfl | hz
        · simp; omega
        · have := h1.1 z hz; simp; omega)]
      rfl
theorem setR_eq {L : List Lin} (h : L.Pairwise (fun x y => x.rank < y.rank)) (x : Lin) : setR x L (decide (x.lim = 0)) = setL L x := by
  unfold setL
  by_cases h0 : x.lim = 0
  · rw [decide_eq_true h0, setR_true, if_pos h0, filter_ne_split L h]; simp
  · rw [decide_eq_false h0, setR_false x L h, if_neg h0]; simp
/-! A party among others. -/
def openU (P : List Int) (p : Int) : Nat → List Int
  | 0 => []
  | k + 1 => openU P p k ++ (if ((k + 1 : Nat) : Int) = p ∨ ((k + 1 : Nat) : Int) ∈ P then [((k + 1 : Nat) : Int)] else [])
theorem openU_mem (P : List Int) (p q : Int) : ∀ k, q ∈ openU P p k ↔ (1 ≤ q ∧ q ≤ k) ∧ (q = p ∨ q ∈ P)
  | 0 => by simp [openU]; omega
  | k + 1 => by
    rw [openU, List.mem_append, openU_mem P p q k]
    constructor
    · rintro (⟨h, h'⟩ | h)
      · exact ⟨by omega, h'⟩
      · split at h
        · rename_i h'
          obtain rfl : q = ((k + 1 : Nat) : Int) := by simpa using h
          exact ⟨by omega, h'⟩
        · cases h
    · rintro ⟨h, h'⟩
      by_cases e : q = ((k + 1 : Nat) : Int)
      · subst e
        rw [if_pos h']
        exact .inr (by simp)
      · exact .inl ⟨by omega, h'⟩
theorem openU_sorted (P : List Int) (p : Int) : ∀ k, (openU P p k).Pairwise (· < ·)
  | 0 => .nil
  | k + 1 => by
    rw [openU, List.pairwise_append]
    refine ⟨openU_sorted P p k, by split <;> simp, fun a ha b hb => ?_⟩
    have := (openU_mem P p a k).1 ha
    split at hb
    · obtain rfl : b = ((k + 1 : Nat) : Int) := by simpa using hb
      omega
    · cases hb
theorem openU_len (P : List Int) (p : Int) : ∀ k, (openU P p k).length ≤ k
  | 0 => by simp [openU]
  | k + 1 => by
    have := openU_len P p k
    rw [openU, List.length_append]
    split <;> simp <;> omega
theorem sortedI_ext : ∀ {L M : List Int}, L.Pairwise (· < ·) → M.Pairwise (· < ·) → (∀ z, z ∈ L ↔ z ∈ M) → L = M
  | [], [], _, _, _ => rfl
  | [], b :: M, _, _, h => by have := (h b).2 (List.mem_cons_self ..); cases this
  | a :: L, [], _, _, h => by have := (h a).1 (List.mem_cons_self ..); cases this
  | a :: L, b :: M, hL, hM, h => by
    have h1 := List.pairwise_cons.1 hL
    have h2 := List.pairwise_cons.1 hM
    have e : a = b := by
      rcases List.mem_cons.1 ((h a).1 (List.mem_cons_self ..)) with e | ha
      · exact e
      · rcases List.mem_cons.1 ((h b).2 (List.mem_cons_self ..)) with e | hb
        · exact e.symm
        · have := h1.1 _ hb; have := h2.1 _ ha; omega
    subst e
    congr 1
    refine sortedI_ext h1.2 h2.2 fun z => ⟨fun hz => ?_, fun hz => ?_⟩
    · rcases List.mem_cons.1 ((h z).1 (List.mem_cons_of_mem _ hz)) with e | hz'
      · subst e; have := h1.1 _ hz; omega
      · exact hz'
    · rcases List.mem_cons.1 ((h z).2 (List.mem_cons_of_mem _ hz)) with e | hz'
      · subst e; have := h2.1 _ hz; omega
      · exact hz'
theorem openU_eq {S : Lgr} (G : S.Good) {p : Int} (h : openE S p = 0) : openU S.P p 16 = insP S.P p := by
  obtain ⟨h1, h2⟩ := openE_ok h
  refine sortedI_ext (openU_sorted _ _ _) (insP_sorted G.par p) fun q => ?_
  rw [openU_mem, insP_mem]
  constructor
  · rintro ⟨_, h | h⟩
    · exact .inr h
    · exact .inl h
  · rintro (h | rfl)
    · exact ⟨G.par1 q h, .inr h⟩
    · exact ⟨h1, .inl rfl⟩
theorem sortedI_len : ∀ {L : List Int} {lo hi : Int}, L.Pairwise (· < ·) → (∀ z ∈ L, lo ≤ z ∧ z ≤ hi) → (L.length : Int) ≤ max 0 (hi - lo + 1)
  | [], _, _, _, _ => by simp; omega
  | a :: L, lo, hi, h, hb => by
    have h1 := List.pairwise_cons.1 h
    have ha := hb a (List.mem_cons_self ..)
    have := sortedI_len (lo := a + 1) (hi := hi) h1.2 (fun z hz => ⟨by have := h1.1 z hz; omega, (hb z (List.mem_cons_of_mem _ hz)).2⟩)
    simp only [List.length_cons, Int.natCast_add, Int.natCast_one]
    omega
theorem Lgr.Good.few16 {S : Lgr} (G : S.Good) : S.P.length ≤ 16 := by
  have := sortedI_len G.par G.par1
  omega
end Go.Proofs.Ytgobnamhdkbbeaa

/- A ledger in memory: its cells, and its map. -/
namespace Go.Proofs.Ytgobnamhdkbbeaa
open Go.RowKit
set_option linter.unusedSimpArgs false
set_option linter.unusedVariables false
set_option maxRecDepth 100000
theorem cell_cur : CellTy 23 := ⟨⟨_, Try.underlying23, rfl⟩, by kernel_rfl⟩
theorem cell_map : CellTy 45 := ⟨⟨_, Try.underlying45, rfl⟩, by kernel_rfl⟩
/-! The key's type. -/
theorem ends_und : ∃ fs, Try.prog.underlying 105 = some (.struct fs) := ⟨_, Try.underlying105⟩
theorem ends_law : WideMaps.KeyLaw Try.prog 105 := deep_law_laid (by kernel_rfl) (m := 2) (by omega) (of_decide_eq_true (by kernel_rfl)) (by kernel_rfl) (by kernel_rfl)
def KL (v : Value) : Prop := ∃ l, keyOf Try.prog 105 v = some l
theorem key_ty : KeyTy 105 KL := KeyTy.of ends_law
theorem wf_u8 {a : Int} (h : 0 ≤ a ∧ a ≤ 255) : (Lit.int .u8 a).wf = true := by
  simp [Lit.wf, IntKind.min, IntKind.max, IntKind.bits, IntKind.signed]; omega
theorem key_ok {a b c : Int} (ha : 0 ≤ a ∧ a ≤ 255) (hb : 0 ≤ b ∧ b ≤ 255) (hc : 0 ≤ c ∧ c ≤ 255) : KL (keyL a b c) := by
  have h1 : Try.prog.keyType 105 = true := by kernel_rfl
  have h2 : Try.prog.cellsOf 105 = 3 := by kernel_rfl
  have h3 : Try.prog.cellsOf 30 = 1 := by kernel_rfl
  have h4 : Try.prog.cellsOf 23 = 1 := by kernel_rfl
  obtain ⟨m, hm⟩ : ∃ m, Try.prog.types.size + 1 = m + 2 := by
    have : 1 ≤ Try.prog.types.size := of_decide_eq_true (by kernel_rfl)
    exact ⟨Try.prog.types.size - 1, by omega⟩
  unfold KL keyOf keyL ends
  rw [hm]
  simp [Try.underlying105, h1, Value.cells, Value.formed, h2, Program.keyLits, Try.underlying30, Try.underlying23, h3, h4, wf_u8 ha, wf_u8 hb, wf_u8 hc]
theorem map_ty : MapTy 45 105 103 KL (valL 0 0) := ⟨Try.underlying45, key_ty, fun w => by kernel_rfl⟩
/-! The cells. -/
/-- Is it among these? -/
def hasP (P : List Int) (a : Int) : Bool := decide (a ∈ P)
def ledA (P : List Int) (m : Option Nat) : Array Value := tab 18 fun i => if i < 17 then .bool (hasP P (i : Int)) else .map m
def parA (P : List Int) : Array Value := tab 17 fun i => .bool (hasP P (i : Int))
theorem ledA_sz (P : List Int) (m : Option Nat) : (ledA P m).size = 18 := tab_size _ _
theorem parA_sz (P : List Int) : (parA P).size = 17 := tab_size _ _
theorem ledA_get (P : List Int) (m : Option Nat) {a : Nat} (h : a < 17) : (ledA P m)[a]? = some (.bool (hasP P (a : Int))) := by
  unfold ledA
  rw [tab_get _ (by omega), if_pos h]
theorem ledA_getb (P : List Int) (m : Option Nat) {a : Nat} {b : Bool} (h : a < 17) (e : hasP P (a : Int) = b) : (ledA P m)[a]? = some (.bool b) := e ▸ ledA_get P m h
theorem ledA_map (P : List Int) (m : Option Nat) : (ledA P m)[17]? = some (.map m) := by
  unfold ledA
  rw [tab_get _ (by omega), if_neg (by omega)]
theorem ledA_set (P : List Int) (m : Option Nat) {a : Nat} (h : a < 17) : (ledA P m).setIfInBounds a (.bool true) = ledA (insP P a) m := by
  unfold ledA
  rw [tab_set _ _ (by omega)]
  apply tab_congr
  intro i hi
  by_cases e : i = a
  · subst e
    rw [if_pos rfl, if_pos h]
    simp [hasP, insP_mem]
  · rw [if_neg e]
    split
    · unfold hasP
      congr 1
      have : ((i : Int) ∈ insP P a) ↔ ((i : Int) ∈ P) := by
        rw [insP_mem]
        constructor
        · rintro (h | h)
          · exact h
          · omega
        · exact .inl
      simp [this]
    · rfl
theorem ledA_setMap (P : List Int) (m m' : Option Nat) : (ledA P m).setIfInBounds 17 (.map m') = ledA P m' := by
  unfold ledA
  rw [tab_set _ _ (by omega)]
  apply tab_congr
  intro i hi
  by_cases e : i = 17
  · subst e; rw [if_pos rfl, if_neg (by omega)]
  · rw [if_neg e, if_pos (by omega), if_pos (by omega)]
theorem ledA_par (P : List Int) (m : Option Nat) : (ledA P m).extract 0 (0 + 17) = parA P := by
  unfold ledA parA
  rw [tab_ext _ (by omega)]
  apply tab_congr
  intro i hi
  rw [Nat.zero_add, if_pos hi]
theorem ledA_all (P : List Int) (m : Option Nat) : (ledA P m).extract 0 (0 + 18) = ledA P m := by
  have := ledA_sz P m
  simp [← this]
theorem parA_all (P : List Int) : (parA P).extract 0 (0 + 17) = parA P := by
  have := parA_sz P
  simp [← this]
theorem parA_get (P : List Int) {a : Nat} (h : a < 17) : (parA P)[a]? = some (.bool (hasP P (a : Int))) := tab_get _ h
theorem ledA_cells (P : List Int) (m : Option Nat) : Cells 18 (ledA P m) := tab_cells fun i _ => by split <;> rfl
theorem parA_cells (P : List Int) : Cells 17 (parA P) := tab_cells fun i _ => rfl
theorem ledA_splice (P P' : List Int) (m m' : Option Nat) : splice (ledA P m) 0 (ledA P' m') = ledA P' m' := splice_all (by rw [ledA_sz, ledA_sz])
theorem parA_splice (P P' : List Int) : splice (parA P) 0 (parA P') = parA P' := splice_all (by rw [parA_sz, parA_sz])
theorem row_led : RowTy 47 18 (ledA [] none) := ⟨⟨_, Try.underlying47, rfl⟩, by kernel_rfl, by kernel_rfl⟩
theorem row_par : RowTy 44 17 (parA []) := ⟨⟨_, Try.underlying44, rfl⟩, by kernel_rfl, by kernel_rfl⟩
theorem row_ends : RowTy 105 3 (ends 0 0 0) := ⟨⟨_, Try.underlying105, rfl⟩, by kernel_rfl, by kernel_rfl⟩
theorem row_owe : RowTy 103 2 (owe 0 0) := ⟨⟨_, Try.underlying103, rfl⟩, by kernel_rfl, by kernel_rfl⟩
theorem ends_all (a b c : Int) : (ends a b c).extract 0 (0 + 3) = ends a b c := by simp
theorem owe_all (a b : Int) : (owe a b).extract 0 (0 + 2) = owe a b := by simp
theorem ends_cells (a b c : Int) : Cells 3 (ends a b c) := ⟨rfl, by simp [Value.oneCell']⟩
theorem owe_cells (a b : Int) : Cells 2 (owe a b) := ⟨rfl, by simp [Value.oneCell']⟩
theorem ends_splice (a b c x y z : Int) : splice (ends a b c) 0 (ends x y z) = ends x y z := splice_all rfl
theorem owe_splice (a b x y : Int) : splice (owe a b) 0 (owe x y) = owe x y := splice_all rfl
/-- A map held against nil. -/
theorem run_neq_map_nil {P : Program} (w : World) (t k e : TypeId) (p : Option Nat) (h : P.underlying t = some (.map k e)) : (binOp .neq t (.map p) (.map none)).run P w = .ok (.bool p.isSome) w := by
  have h2 := run_equalIn_map_nil_sl (P := P) w 9999 t k e p h
  simp only [binOp]
  simp [show Op.equal t (.map p) (.map none) = Op.equalIn (9999 + 1) t (.map p) (.map none) from rfl, h2]
theorem run_neq_mapL (p : Option Nat) (w : World) : (binOp .neq 45 (.map p) (.map none)).run Try.prog w = .ok (.bool p.isSome) w := run_neq_map_nil w _ _ _ p Try.underlying45
abbrev LdC (p : Nat) (P : List Int) (m : Option Nat) : Thing := Cel p (ledA P m) 47
abbrev LdM (q : Nat) (L : List Lin) : Thing := MapT KL q (prs L)
end Go.Proofs.Ytgobnamhdkbbeaa

/- A region that draws its order, where two allocs may come in either order. -/
namespace Go.Proofs.Ytgobnamhdkbbeaa
open Go.RowKit
set_option linter.unusedVariables false
section
variable {P : Program} {ops : Array Oper} {md : Region.Mode} {W : World} {G : List Thing → Prop}
/-- Is this order one that serves? (i, some j: i and j come in either order.) -/
def Region.lexM (md : Region.Mode) (ops : Array Oper) (loud : List Nat) : List (Nat × Option Nat) → Array Bool → Bool
  | [], listed => (Region.ready md ops listed).isEmpty
  | (k, none) :: ks, listed => (if loud.contains k then Region.ready md ops listed == [k] else (Region.ready md ops listed).contains k && Region.free md ops listed k) && Region.lexM md ops loud ks (listed.setIfInBounds k true)
  | (i, some j) :: ks, listed => (Region.ready md ops listed == [i, j]) && (Region.ready md ops (listed.setIfInBounds i true) == [j]) && (Region.ready md ops (listed.setIfInBounds j true) == [i]) && i != j && Region.lexM md ops loud ks ((listed.setIfInBounds i true).setIfInBounds j true)
def lenM : List (Nat × Option Nat) → Nat
  | [] => 0
  | (_, none) :: ks => lenM ks + 1
  | (_, some _) :: ks => lenM ks + 2
def Region.lexMB (ops : Array Oper) (loud : List Nat) (ord : List (Nat × Option Nat)) : Bool := Region.noSelect ops && Region.lexM .any ops loud ord (Array.replicate ops.size false) && lenM ord == ops.size
def wpM (P : Program) (ops : Array Oper) (W : World) (G : List Thing → Prop) (loud : List Nat) (K : List Thing → Act → Prop) : List (Nat × Option Nat) → List Thing → Act → Prop
  | [], l, a => K l a
  | (k, none) :: ks, l, a => ∃ o, ops[k]? = some o ∧ if loud.contains k then LoudG P ops W o l a fun l' u => G l' ∧ wpM P ops W G loud K ks l' (a.put o.dst u)
      else ∃ v, YieldsG P ops W G o v a ∧ wpM P ops W G loud K ks l (a.put o.dst v)
  | (i, some j) :: ks, l, a => ∃ oi oj, ops[i]? = some oi ∧ ops[j]? = some oj ∧
      (LoudG P ops W oi l a fun l1 u => G l1 ∧ LoudG P ops W oj l1 (a.put oi.dst u) fun l2 u2 => G l2 ∧ wpM P ops W G loud K ks l2 ((a.put oi.dst u).put oj.dst u2)) ∧
      (LoudG P ops W oj l a fun l1 u => G l1 ∧ LoudG P ops W oi l1 (a.put oj.dst u) fun l2 u2 => G l2 ∧ wpM P ops W G loud K ks l2 ((a.put oj.dst u).put oi.dst u2))
theorem WholeG.lexM {loud : List Nat} {K : List Thing → Act → Prop} (hsel : Region.noSelect ops = true) :
    ∀ (ks : List (Nat × Option Nat)) (l : List Thing) (listed : Array Bool) (a : Act), Region.lexM md ops loud ks listed = true → wpM P ops W G loud K ks l a → WholeG P md ops W G K (lenM ks) l listed a := by
  intro ks
  induction ks with
  | nil => intro l listed a hB h; exact ⟨by simpa [Region.lexM] using hB, h⟩
  | cons k ks ih =>
    intro l listed a hB h
    obtain ⟨i, j⟩ := k
    cases j with
    | none =>
      obtain ⟨o, h0, h⟩ := h
      rw [Region.lexM] at hB
      simp only [Bool.and_eq_true] at hB
      obtain ⟨hB, hB'⟩ := hB
      by_cases hk : loud.contains i = true
      · rw [if_pos hk] at h hB
        have hr : Region.ready md ops listed = [i] := by simpa using hB
        refine ⟨by rw [hr]; simp, fun i' hi => ?_⟩
        rw [hr] at hi
        obtain rfl : i' = i := by simpa using hi
        exact ⟨o, h0, .inr (h.mono fun l' u ⟨hg, h⟩ => ⟨hg, ih _ _ _ hB' h⟩)⟩
      · rw [if_neg hk] at h hB
        simp only [Bool.and_eq_true] at hB
        obtain ⟨v, hy, h⟩ := h
        exact WholeG.first h0 (Region.noSelect_spec hsel) (lenM ks) l listed a (Region.free_spec h0 hB.2) (by simpa using hB.1) hy (ih _ _ _ hB' h)
    | some j =>
      obtain ⟨oi, oj, hi0, hj0, h1, h2⟩ := h
      rw [Region.lexM] at hB
      simp only [Bool.and_eq_true, beq_iff_eq, bne_iff_ne, ne_eq] at hB
      obtain ⟨⟨⟨⟨r0, r1⟩, r2⟩, hne⟩, hB'⟩ := hB
      refine ⟨by rw [r0]; simp, fun k hk => ?_⟩
      rw [r0] at hk
      simp only [List.mem_cons, List.not_mem_nil, or_false] at hk
      rcases hk with rfl | rfl
      · refine ⟨oi, hi0, .inr (h1.mono fun l1 u ⟨hg, h⟩ => ⟨hg, ?_⟩)⟩
        refine ⟨by rw [r1]; simp, fun k2 hk2 => ?_⟩
        rw [r1] at hk2
        obtain rfl : k2 = j := by simpa using hk2
        exact ⟨oj, hj0, .inr (h.mono fun l2 u2 ⟨hg, h⟩ => ⟨hg, ih _ _ _ hB' h⟩)⟩
      · refine ⟨oj, hj0, .inr (h2.mono fun l1 u ⟨hg, h⟩ => ⟨hg, ?_⟩)⟩
        refine ⟨by rw [r2]; simp, fun k2 hk2 => ?_⟩
        rw [r2] at hk2
        obtain rfl : k2 = i := by simpa using hk2
        refine ⟨oi, hi0, .inr (h.mono fun l2 u2 ⟨hg, h⟩ => ⟨hg, ?_⟩)⟩
        rw [Array.setIfInBounds_comm _ _ (fun e => hne e.symm)]
        exact ih _ _ _ hB' h
theorem wp_region_M {id : Nat} {Q : Exit → Act → World → Prop} {a : Act} {w : World} {l : List Thing} {lo : List Oper} (loud : List Nat) (ord : List (Nat × Option Nat)) (G : List Thing → Prop) (H : Heap W l w) (hG : G l) (hm : P.follows .mixedOrders = true) (hB : Region.lexMB lo.toArray loud ord = true)
    (h : wpM P lo.toArray W G loud (fun l' a' => ∀ w', Heap W l' w' → Q .normal a' w') ord l a) : (Code.region id lo.toArray true).wp P Q a w := by
  simp only [Region.lexMB, Bool.and_eq_true, beq_iff_eq] at hB
  refine wp_region_any hm ?_
  have := WholeG.lexM (md := .any) hB.1.1 ord l _ a hB.1.2 h
  have h2 := WholeG.any (Q := Q) (fun l a w H h => h w H) (lenM ord) l _ a _ hG H.drew this
  rw [hB.2] at h2
  exact h2
theorem wpM_nil {loud : List Nat} {K : List Thing → Act → Prop} {l : List Thing} {a : Act} (h : K l a) : wpM P ops W G loud K [] l a := h
/-- Quiet ones at the front: as in wpO. -/
theorem wpM_step {loud : List Nat} {lo : List Oper} {K : List Thing → Act → Prop} {o : Oper} {k : Nat} {ks : List (Nat × Option Nat)} {l : List Thing} {a : Act} {s : Nat} {v : Value} (ho : lo[k]? = some o) (hk : loud.contains k = false) (hd : o.dst = some s) (hlt : s < a.tmps.size)
    (h1 : ∀ l0, G l0 → ∀ (w0 : World) (H0 : Heap W l0 w0), wpQuiet P lo.toArray (fun w' => ∃ d, w' = H0.any d) (fun a' => a'.tmps.getD s undef = v) [o] a) (h2 : wpM P lo.toArray W G loud K ks l (a.put o.dst v)) : wpM P lo.toArray W G loud K ((k, none) :: ks) l a := by
  refine ⟨o, by simpa using ho, ?_⟩
  rw [if_neg (by rw [hk]; exact Bool.false_ne_true)]
  refine ⟨v, fun l0 hl0 w0 H0 => ?_, h2⟩
  have h := h1 l0 hl0 w0 H0
  have inj : ∀ u, (a.put o.dst u).tmps.getD s undef = v → u = v := fun u hu => by
    rw [hd] at hu
    simpa [Act.put, hlt] using hu
  unfold wpQuiet at h
  by_cases hw : Region.wanted o (yielded lo.toArray a.tmps) = true
  · rw [if_pos hw] at h
    obtain ⟨u, hu, hk⟩ := h
    obtain rfl := inj u hk
    exact .inl ⟨hw, hu⟩
  · rw [if_neg hw] at h
    exact .inr ⟨by simpa using hw, (inj undef h).symm⟩
theorem wpM_loud {loud : List Nat} {lo : List Oper} {K : List Thing → Act → Prop} {o : Oper} {k : Nat} {ks : List (Nat × Option Nat)} {l : List Thing} {a : Act} (ho : lo[k]? = some o) (hk : loud.contains k = true) (h : LoudG P lo.toArray W o l a fun l' u => G l' ∧ wpM P lo.toArray W G loud K ks l' (a.put o.dst u)) : wpM P lo.toArray W G loud K ((k, none) :: ks) l a := by
  refine ⟨o, by simpa using ho, ?_⟩
  rw [if_pos hk]
  exact h
end
section
variable {W : World} {G : List Thing → Prop} {loud : List Nat} {K : List Thing → Act → Prop} {lo : List Oper} {ks : List (Nat × Option Nat)} {k : Nat} {l : List Thing} {a : Act} {T n : Nat} {z : Array Value}
theorem loud_alloc {ops : Array Oper} {dst : Option Tmp} {ty : TypeId} {pos : String} {after : Array Edge} {guard : Option (Nat × Bool)} (RT : RowTy T n z) (hw : Region.wanted ⟨dst, .alloc T, ty, pos, after, guard⟩ (yielded ops a.tmps) = true) {k : List Thing → Value → Prop}
    (h : ∀ p, k (Cel p z T :: l) (.pointer (some ⟨p, 0, none⟩))) : LoudG Try.prog ops W ⟨dst, .alloc T, ty, pos, after, guard⟩ l a k := by
  refine ⟨hw, fun w H => ⟨Cel w.heap.size z T :: l, .pointer (some ⟨w.heap.size, 0, none⟩), w.alloc (.cells z T), .inl ?_, H.alloc _ _, h _⟩⟩
  have hz := RT.zero
  cases hi : Try.prog.info? T with
  | none => rw [hi] at hz; cases hz
  | some i =>
    rw [hi] at hz
    have hz' : i.zero = some (.agg z) := hz
    have r2 : (zeroValue T).run Try.prog w = .ok (.agg z) w := by simp [zeroValue, typeInfo, hi, hz', go_sem]
    unfold execOp
    simp only [Instr.alloc, Sem.run_bind, r2, Result.andThen_ok, newVar, newRow, Value.cells]
    rfl
theorem LoudG.perm {ops : Array Oper} {o : Oper} {k k' : List Thing → Value → Prop} (h : LoudG Try.prog ops W o l a k) (hk : ∀ l' u, k l' u → ∃ l2, l'.Perm l2 ∧ k' l2 u) : LoudG Try.prog ops W o l a k' :=
  ⟨h.1, fun w H => by
    obtain ⟨l', u, w', hr, H', hk1⟩ := h.2 w H
    obtain ⟨l2, hp, hk2⟩ := hk _ _ hk1
    exact ⟨l2, u, w', hr, H'.perm hp, hk2⟩⟩
theorem wpM_allocR {dst : Option Tmp} {ty : TypeId} {pos : String} {after : Array Edge} {guard : Option (Nat × Bool)} (RT : RowTy T n z) (ho : lo[k]? = some ⟨dst, .alloc T, ty, pos, after, guard⟩) (hk : loud.contains k = true) (hw : Region.wanted ⟨dst, .alloc T, ty, pos, after, guard⟩ (yielded lo.toArray a.tmps) = true)
    (hG : ∀ p, G (Cel p z T :: l)) (h : ∀ p, wpM Try.prog lo.toArray W G loud K ks (Cel p z T :: l) (a.put dst (.pointer (some ⟨p, 0, none⟩)))) : wpM Try.prog lo.toArray W G loud K ((k, none) :: ks) l a :=
  wpM_loud ho hk (loud_alloc RT hw fun p => ⟨hG p, h p⟩)
/-- Two allocs, in either order. -/
theorem wpM_alloc2 {T2 n2 : Nat} {z2 : Array Value} {k2 : Nat} {d1 d2 : Nat} {ty ty2 : TypeId} {pos pos2 : String} {after after2 : Array Edge} {guard guard2 : Option (Nat × Bool)} (RT : RowTy T n z) (RT2 : RowTy T2 n2 z2) (ho : lo[k]? = some ⟨some d1, .alloc T, ty, pos, after, guard⟩) (ho2 : lo[k2]? = some ⟨some d2, .alloc T2, ty2, pos2, after2, guard2⟩)
    (hg : guard = none) (hg2 : guard2 = none) (hd : d1 ≠ d2)
    (hG1 : ∀ p, G (Cel p z T :: l)) (hG2 : ∀ p, G (Cel p z2 T2 :: l)) (hG : ∀ p q, G (Cel q z2 T2 :: Cel p z T :: l))
    (h : ∀ p q, wpM Try.prog lo.toArray W G loud K ks (Cel q z2 T2 :: Cel p z T :: l) ((a.put (some d1) (.pointer (some ⟨p, 0, none⟩))).put (some d2) (.pointer (some ⟨q, 0, none⟩)))) : wpM Try.prog lo.toArray W G loud K ((k, some k2) :: ks) l a := by
  subst hg hg2
  refine ⟨_, _, by simpa using ho, by simpa using ho2, ?_, ?_⟩
  · exact loud_alloc RT rfl fun p => ⟨hG1 p, loud_alloc RT2 rfl fun q => ⟨hG p q, h p q⟩⟩
  · refine loud_alloc RT2 rfl fun q => ⟨hG2 q, ?_⟩
    refine LoudG.perm (k := fun l' u => ∃ p, l' = Cel p z T :: Cel q z2 T2 :: l ∧ u = .pointer (some ⟨p, 0, none⟩)) (loud_alloc RT rfl fun p => ⟨p, rfl, rfl⟩) ?_
    rintro _ _ ⟨p, rfl, rfl⟩
    refine ⟨_, .swap _ _ _, hG p q, ?_⟩
    have e := Act.put_comm a (x := some d2) (y := some d1) (.pointer (some ⟨q, 0, none⟩)) (.pointer (some ⟨p, 0, none⟩)) (fun d e1 e2 => hd (by cases e1; cases e2; rfl))
    rw [e]
    exact h p q
theorem wpM_storeR {dst : Option Tmp} {ty : TypeId} {pos : String} {after : Array Edge} {guard : Option (Nat × Bool)} {x y : Operand} {b off : Nat} {c2 : Array Value} (RT : RowTy T n z) (ho : lo[k]? = some ⟨dst, .store T x y, ty, pos, after, guard⟩) (hk : loud.contains k = true) (hw : Region.wanted ⟨dst, .store T x y, ty, pos, after, guard⟩ (yielded lo.toArray a.tmps) = true) (hx : a.eval x = .pointer (some ⟨b, off, none⟩)) (hy : a.eval y = .agg c2) (hc : Cells n c2)
    {c c1 : Array Value} {t : TypeId} {l' : List Thing} (m : Cel b c t ∈ l) (hn : off + n ≤ c.size) (hs : splice c off c2 = c1) (r : Repl l (Cel b c t) (Cel b c1 t) l') (hG : G l')
    (h : wpM Try.prog lo.toArray W G loud K ks l' (a.put dst undef)) : wpM Try.prog lo.toArray W G loud K ((k, none) :: ks) l a := by
  subst hs
  refine wpM_loud ho hk ⟨hw, fun w H => ⟨l', undef, setBlk w b (splice c off c2), .inr ⟨?_, rfl⟩, H.set r, hG, h⟩⟩
  unfold execOp
  simp only [hx, hy, Sem.run_bind, run_storeR RT hc (H.blk m) hn, Result.andThen_ok]
  rfl
end
end Go.Proofs.Ytgobnamhdkbbeaa

/- ledgers.Ledger: there, may, New, Open, Has. -/
namespace Go.Proofs.Ytgobnamhdkbbeaa
open Go.RowKit
set_option linter.unusedSimpArgs false
set_option linter.unusedVariables false
section
variable {W w : World} {l : List Thing} {p q : Nat} {m : Option Nat} {P : List Int} {S : Lgr} {R : Ending → World → Prop}
set_option maxRecDepth 100000
set_option maxHeartbeats 1000000
theorem lmay_ans (a : Nat) (h : a ≤ 255) : Ans 75 #[.int .u8 (a : Int)] (.bool (decide (1 ≤ a ∧ a ≤ 16))) := by
  intro w
  by_cases h1 : 1 ≤ a
  · by_cases h2 : a ≤ 16
    all_goals
      go_enter Try.func75, Try.ntmps75
      go_wp2_with fail
      go_ret
      exact ⟨by simp [h1, h2]; omega, (by repeat (first | exact Ext.refl _ | refine Ext.alloc ?_ _ | refine Ext.ext ?_ _ | refine Ext.drew ?_))⟩
  · go_enter Try.func75, Try.ntmps75
    go_wp2_with fail
    go_ret
    exact ⟨by simp [h1], (by repeat (first | exact Ext.refl _ | refine Ext.alloc ?_ _ | refine Ext.ext ?_ _ | refine Ext.drew ?_))⟩
theorem lthere_nil : Ans 55 #[.pointer none] (.bool false) := by
  intro w
  go_enter Try.func55, Try.ntmps55
  go_wp2_with fail
  go_ret
  exact ⟨rfl, (by repeat (first | exact Ext.refl _ | refine Ext.alloc ?_ _ | refine Ext.ext ?_ _ | refine Ext.drew ?_))⟩
theorem lthere_H (h : LdC p P m ∈ l) : AnsH W l 55 #[.pointer (some ⟨p, 0, none⟩)] (.bool m.isSome) := by
  intro w H
  have hm := run_neq_mapL m
  generalize m.isSome = b at *
  go_enter Try.func55, Try.ntmps55
  go_wp2_with (first | go_skip | ((with_reducible show wpList _ _ _ (_ :: _) _ _); (with_reducible apply wpl_loadCH); (· exact cell_map); (· rfl); (· rfl); (· exact H); (· exact h); (· exact ledA_map _ _); (simp only [Act.put, List.setIfInBounds_toArray, List.set_cons_zero, List.set_cons_succ])))
  go_ret
  exact ⟨rfl, H⟩
/-- The ends' numbers as they may be. -/
theorem endsMay_ans (cr db cu : Nat) (h1 : cr ≤ 255) (h2 : db ≤ 255) (h3 : cu ≤ 255) : Ans 86 #[.agg (ends (cr : Int) (db : Int) (cu : Int))] (.bool (!decide (badEnds (cr : Int) (db : Int) (cu : Int)))) := by
  intro w
  have H := Heap.start w
  have m1 := lmay_ans cr h1
  have m2 := lmay_ans db h2
  by_cases c1 : 1 ≤ cr ∧ cr ≤ 16
  · rw [decide_eq_true c1] at m1
    by_cases c2 : 1 ≤ db ∧ db ≤ 16
    · rw [decide_eq_true c2] at m2
      by_cases c3 : cr = db
      · subst c3
        have HR := Lib.hid (show decide (badEnds (cr : Int) (cr : Int) (cu : Int)) = true from decide_eq_true (by unfold badEnds; omega))
        go_enter Try.func86, Try.ntmps86
        go_wp2_with (first | go_skip | ((with_reducible show wpList _ _ _ (_ :: _) _ _); (with_reducible apply wpl_boxRH); (· rfl); (· rfl); (· exact H); (clear H; intro px _ H); (simp only [Act.put, List.setIfInBounds_toArray, List.set_cons_zero, List.set_cons_succ])) | ((with_reducible show wpList _ _ _ (_ :: _) _ _); (with_reducible apply wpl_loadCH); (· first | exact cell_party | exact cell_cur); (· rfl); (· rfl); (· exact H); (· (repeat (first | (with_reducible exact List.mem_cons_self) | with_reducible apply List.mem_cons_of_mem))); (· (with_reducible first | exact ends_g0 .. | exact ends_g1 .. | exact ends_g2 ..)); (simp only [Act.put, List.setIfInBounds_toArray, List.set_cons_zero, List.set_cons_succ])) | ((with_reducible refine Ans.callH (by assumption) H ?_); clear H; intro _ H))
        go_ret
        exact ⟨by rw [HR.out]; rfl, H.low⟩
      · have e1 : ((cr : Int) == (db : Int)) = false := by simp; omega
        have e2 : ((cr : Int) != (db : Int)) = true := by simp; omega
        by_cases c4 : 1 ≤ cu
        · by_cases c5 : cu ≤ 8
          · have e5 : decide ((cu : Int) ≤ 8) = true := decide_eq_true (by omega)
            have HR := Lib.hid (show decide (badEnds (cr : Int) (db : Int) (cu : Int)) = false from decide_eq_false (by unfold badEnds; omega))
            go_enter Try.func86, Try.ntmps86
            go_wp2_with (first | go_skip | ((with_reducible show wpList _ _ _ (_ :: _) _ _); (with_reducible apply wpl_boxRH); (· rfl); (· rfl); (· exact H); (clear H; intro px _ H); (simp only [Act.put, List.setIfInBounds_toArray, List.set_cons_zero, List.set_cons_succ])) | ((with_reducible show wpList _ _ _ (_ :: _) _ _); (with_reducible apply wpl_loadCH); (· first | exact cell_party | exact cell_cur); (· rfl); (· rfl); (· exact H); (· (repeat (first | (with_reducible exact List.mem_cons_self) | with_reducible apply List.mem_cons_of_mem))); (· (with_reducible first | exact ends_g0 .. | exact ends_g1 .. | exact ends_g2 ..)); (simp only [Act.put, List.setIfInBounds_toArray, List.set_cons_zero, List.set_cons_succ])) | ((with_reducible refine Ans.callH (by assumption) H ?_); clear H; intro _ H))
            go_ret
            exact ⟨by rw [HR.out]; rfl, H.low⟩
          · have e5 : decide ((cu : Int) ≤ 8) = false := decide_eq_false (by omega)
            have HR := Lib.hid (show decide (badEnds (cr : Int) (db : Int) (cu : Int)) = true from decide_eq_true (by unfold badEnds; omega))
            go_enter Try.func86, Try.ntmps86
            go_wp2_with (first | go_skip | ((with_reducible show wpList _ _ _ (_ :: _) _ _); (with_reducible apply wpl_boxRH); (· rfl); (· rfl); (· exact H); (clear H; intro px _ H); (simp only [Act.put, List.setIfInBounds_toArray, List.set_cons_zero, List.set_cons_succ])) | ((with_reducible show wpList _ _ _ (_ :: _) _ _); (with_reducible apply wpl_loadCH); (· first | exact cell_party | exact cell_cur); (· rfl); (· rfl); (· exact H); (· (repeat (first | (with_reducible exact List.mem_cons_self) | with_reducible apply List.mem_cons_of_mem))); (· (with_reducible first | exact ends_g0 .. | exact ends_g1 .. | exact ends_g2 ..)); (simp only [Act.put, List.setIfInBounds_toArray, List.set_cons_zero, List.set_cons_succ])) | ((with_reducible refine Ans.callH (by assumption) H ?_); clear H; intro _ H))
            go_ret
            exact ⟨by rw [HR.out]; rfl, H.low⟩
        · have HR := Lib.hid (show decide (badEnds (cr : Int) (db : Int) (cu : Int)) = true from decide_eq_true (by unfold badEnds; omega))
          go_enter Try.func86, Try.ntmps86
          go_wp2_with (first | go_skip | ((with_reducible show wpList _ _ _ (_ :: _) _ _); (with_reducible apply wpl_boxRH); (· rfl); (· rfl); (· exact H); (clear H; intro px _ H); (simp only [Act.put, List.setIfInBounds_toArray, List.set_cons_zero, List.set_cons_succ])) | ((with_reducible show wpList _ _ _ (_ :: _) _ _); (with_reducible apply wpl_loadCH); (· first | exact cell_party | exact cell_cur); (· rfl); (· rfl); (· exact H); (· (repeat (first | (with_reducible exact List.mem_cons_self) | with_reducible apply List.mem_cons_of_mem))); (· (with_reducible first | exact ends_g0 .. | exact ends_g1 .. | exact ends_g2 ..)); (simp only [Act.put, List.setIfInBounds_toArray, List.set_cons_zero, List.set_cons_succ])) | ((with_reducible refine Ans.callH (by assumption) H ?_); clear H; intro _ H))
          go_ret
          exact ⟨by rw [HR.out]; rfl, H.low⟩
    · rw [decide_eq_false c2] at m2
      have HR := Lib.hid (show decide (badEnds (cr : Int) (db : Int) (cu : Int)) = true from decide_eq_true (by unfold badEnds; omega))
      go_enter Try.func86, Try.ntmps86
      go_wp2_with (first | go_skip | ((with_reducible show wpList _ _ _ (_ :: _) _ _); (with_reducible apply wpl_boxRH); (· rfl); (· rfl); (· exact H); (clear H; intro px _ H); (simp only [Act.put, List.setIfInBounds_toArray, List.set_cons_zero, List.set_cons_succ])) | ((with_reducible show wpList _ _ _ (_ :: _) _ _); (with_reducible apply wpl_loadCH); (· first | exact cell_party | exact cell_cur); (· rfl); (· rfl); (· exact H); (· (repeat (first | (with_reducible exact List.mem_cons_self) | with_reducible apply List.mem_cons_of_mem))); (· (with_reducible first | exact ends_g0 .. | exact ends_g1 .. | exact ends_g2 ..)); (simp only [Act.put, List.setIfInBounds_toArray, List.set_cons_zero, List.set_cons_succ])) | ((with_reducible refine Ans.callH (by assumption) H ?_); clear H; intro _ H))
      go_ret
      exact ⟨by rw [HR.out]; rfl, H.low⟩
  · rw [decide_eq_false c1] at m1
    have HR := Lib.hid (show decide (badEnds (cr : Int) (db : Int) (cu : Int)) = true from decide_eq_true (by unfold badEnds; omega))
    go_enter Try.func86, Try.ntmps86
    go_wp2_with (first | go_skip | ((with_reducible show wpList _ _ _ (_ :: _) _ _); (with_reducible apply wpl_boxRH); (· rfl); (· rfl); (· exact H); (clear H; intro px _ H); (simp only [Act.put, List.setIfInBounds_toArray, List.set_cons_zero, List.set_cons_succ])) | ((with_reducible show wpList _ _ _ (_ :: _) _ _); (with_reducible apply wpl_loadCH); (· first | exact cell_party | exact cell_cur); (· rfl); (· rfl); (· exact H); (· (repeat (first | (with_reducible exact List.mem_cons_self) | with_reducible apply List.mem_cons_of_mem))); (· (with_reducible first | exact ends_g0 .. | exact ends_g1 .. | exact ends_g2 ..)); (simp only [Act.put, List.setIfInBounds_toArray, List.set_cons_zero, List.set_cons_succ])) | ((with_reducible refine Ans.callH (by assumption) H ?_); clear H; intro _ H))
    go_ret
    exact ⟨by rw [HR.out]; rfl, H.low⟩
end
end Go.Proofs.Ytgobnamhdkbbeaa

/- ledgers.Ledger: New, Open, Has, Room, Line. -/
namespace Go.Proofs.Ytgobnamhdkbbeaa
open Go.RowKit
set_option linter.unusedSimpArgs false
set_option linter.unusedVariables false
abbrev line (cr db cu lim deb : Int) : Array Value := #[.int .u8 cr, .int .u8 db, .int .u8 cu, .int .i64 lim, .int .i64 deb]
theorem row_line : RowTy 84 5 (line 0 0 0 0 0) := ⟨⟨_, Try.underlying84, rfl⟩, by kernel_rfl, by kernel_rfl⟩
theorem line_all (a b c d e : Int) : (line a b c d e).extract 0 (0 + 5) = line a b c d e := by simp
theorem line_cells (a b c d e : Int) : Cells 5 (line a b c d e) := ⟨rfl, by simp [Value.oneCell']⟩
theorem line_splice (a b c d e x y z u v : Int) : splice (line a b c d e) 0 (line x y z u v) = line x y z u v := splice_all rfl
theorem line_g0 (a b c d e : Int) : (line a b c d e)[0]? = some (.int .u8 a) := rfl
theorem line_g1 (a b c d e : Int) : (line a b c d e)[1]? = some (.int .u8 b) := rfl
theorem line_g2 (a b c d e : Int) : (line a b c d e)[2]? = some (.int .u8 c) := rfl
theorem line_g3 (a b c d e : Int) : (line a b c d e)[3]? = some (.int .i64 d) := rfl
theorem line_g4 (a b c d e : Int) : (line a b c d e)[4]? = some (.int .i64 e) := rfl
theorem line_sz (a b c d e : Int) : (line a b c d e).size = 5 := rfl
theorem new_ledA : (#[.bool false, .bool false, .bool false, .bool false, .bool false, .bool false, .bool false, .bool false, .bool false, .bool false, .bool false, .bool false, .bool false, .bool false, .bool false, .bool false, .bool false, .map (some 0)] : Array Value) = ledA [] (some 0) := by kernel_rfl
section
variable {W w : World} {l : List Thing} {p q : Nat} {m : Option Nat} {P : List Int} {S : Lgr} {R : Ending → World → Prop}
set_option maxRecDepth 100000
set_option maxHeartbeats 1000000
/-- What there() is met with. -/
theorem lthere_call (H : Heap W l w) (h : LdC p P (some q) ∈ l) (k : ∀ w', Heap W l w' → R (.returned (.bool true)) w') : Calls Try.prog 55 #[.pointer (some ⟨p, 0, none⟩)] w R := (lthere_H h).call H k
theorem lnew_H (H : Heap W l w) : Calls Try.prog 24 #[] w fun e w' => ∃ p q, e = .returned (.pointer (some ⟨p, 0, none⟩)) ∧ Heap W (LdC p [] (some q) :: LdM q [] :: l) w' := by
  go_enter Try.func24, Try.ntmps24
  go_wp2_with (first
    | go_skip
    | ((with_reducible show wpList _ _ _ (_ :: _) _ _); (with_reducible apply wpl_makeM (KS := KL)); (· rfl); (· exact H); (clear H; intro q _ H); (simp only [Act.put, List.setIfInBounds_toArray, List.set_cons_zero, List.set_cons_succ]))
    | ((with_reducible show wpList _ _ _ (_ :: _) _ _); (with_reducible apply wpl_boxRH); (· rfl); (· rfl); (· exact H); (clear H; intro px _ H); (simp only [Act.put, List.setIfInBounds_toArray, List.set_cons_zero, List.set_cons_succ])))
  go_ret
  exact ⟨px, q, rfl, H⟩
theorem lopen_H (a : Nat) (ha : a ≤ 255) (H : Heap W (LdC p S.P (some q) :: l) w) : Calls Try.prog 41 #[.pointer (some ⟨p, 0, none⟩), .int .u8 (a : Int)] w fun e w' => e = .returned (.int .i64 (openE S (a : Int))) ∧ Heap W (LdC p (openS S (a : Int)).P (some q) :: l) w' := by
  have m1 := lmay_ans a ha
  by_cases c1 : 1 ≤ a ∧ a ≤ 16
  · rw [decide_eq_true c1] at m1
    have h17 : a < 17 := by omega
    by_cases c2 : (a : Int) ∈ S.P
    · have e0 : openE S (a : Int) = 8 := by unfold openE; rw [if_neg (by omega), if_pos c2]
      have e1 : openS S (a : Int) = S := by unfold openS; rw [if_neg (by omega)]
      rw [e0, e1]
      have e2 : hasP S.P (a : Int) = true := decide_eq_true c2
      clear e0 e1 c2
      generalize S.P = P at *
      go_enter Try.func41, Try.ntmps41
      go_wp2_with (first | go_skip | ((with_reducible apply lthere_call H); (· (repeat (first | (with_reducible exact List.mem_cons_self) | with_reducible apply List.mem_cons_of_mem))); (clear H; intro _ H)) | ((with_reducible refine Ans.callH (by assumption) H ?_); clear H; intro _ H) | ((with_reducible show wpList _ _ _ (_ :: _) _ _); (with_reducible apply wpl_loadCH); (· exact cell_bool); (· rfl); (· rfl); (· exact H); (· (repeat (first | (with_reducible exact List.mem_cons_self) | with_reducible apply List.mem_cons_of_mem))); (· exact ledA_getb _ _ h17 e2); (simp only [Act.put, List.setIfInBounds_toArray, List.set_cons_zero, List.set_cons_succ])))
      go_ret
      exact ⟨rfl, H⟩
    · have e0 : openE S (a : Int) = 0 := by unfold openE; rw [if_neg (by omega), if_neg c2]
      have e1 : (openS S (a : Int)).P = insP S.P a := by unfold openS; rw [if_pos e0]
      rw [e0, e1]
      have e2 : hasP S.P (a : Int) = false := decide_eq_false c2
      clear e0 e1 c2
      generalize S.P = P at *
      go_enter Try.func41, Try.ntmps41
      go_wp2_with (first
        | go_skip | ((with_reducible apply lthere_call H); (· (repeat (first | (with_reducible exact List.mem_cons_self) | with_reducible apply List.mem_cons_of_mem))); (clear H; intro _ H)) | ((with_reducible refine Ans.callH (by assumption) H ?_); clear H; intro _ H) | ((with_reducible show wpList _ _ _ (_ :: _) _ _); (with_reducible apply wpl_loadCH); (· exact cell_bool); (· rfl); (· rfl); (· exact H); (· (repeat (first | (with_reducible exact List.mem_cons_self) | with_reducible apply List.mem_cons_of_mem))); (· exact ledA_getb _ _ h17 e2); (simp only [Act.put, List.setIfInBounds_toArray, List.set_cons_zero, List.set_cons_succ]))
        | ((with_reducible show wpList _ _ _ (_ :: _) _ _); (with_reducible apply wpl_storeBH); (· exact cell_bool); (· rfl); (· rfl); (· rfl); (· exact H); (· (repeat (first | (with_reducible exact List.mem_cons_self) | with_reducible apply List.mem_cons_of_mem))); (· (rw [ledA_sz]; omega)); (· exact ledA_set _ _ h17); (· (repeat (first | (with_reducible exact Repl.here) | with_reducible apply Repl.there))); (clear H; intro _ H); (simp only [Act.put, List.setIfInBounds_toArray, List.set_cons_zero, List.set_cons_succ])))
      go_ret
      exact ⟨rfl, H⟩
  · rw [decide_eq_false c1] at m1
    have e0 : openE S (a : Int) = 1 := by unfold openE; rw [if_pos (by omega)]
    have e1 : openS S (a : Int) = S := by unfold openS; rw [if_neg (by omega)]
    rw [e0, e1]
    clear e0 e1
    generalize S.P = P at *
    go_enter Try.func41, Try.ntmps41
    go_wp2_with (first | go_skip | ((with_reducible apply lthere_call H); (· (repeat (first | (with_reducible exact List.mem_cons_self) | with_reducible apply List.mem_cons_of_mem))); (clear H; intro _ H)) | ((with_reducible refine Ans.callH (by assumption) H ?_); clear H; intro _ H))
    go_ret
    exact ⟨rfl, H⟩
theorem lhas_H (a : Nat) (ha : a ≤ 255) (h : LdC p P (some q) ∈ l) (hP : ∀ p ∈ P, 1 ≤ p ∧ p ≤ 16) : AnsH W l 33 #[.pointer (some ⟨p, 0, none⟩), .int .u8 (a : Int)] (.bool (hasP P (a : Int))) := by
  intro w H
  have m1 := lmay_ans a ha
  by_cases c1 : 1 ≤ a ∧ a ≤ 16
  · rw [decide_eq_true c1] at m1
    have h17 : a < 17 := by omega
    clear hP
    go_enter Try.func33, Try.ntmps33
    go_wp2_with (first | go_skip | ((with_reducible apply lthere_call H); (· exact h); (clear H; intro _ H)) | ((with_reducible refine Ans.callH (by assumption) H ?_); clear H; intro _ H) | ((with_reducible show wpList _ _ _ (_ :: _) _ _); (with_reducible apply wpl_loadCH); (· exact cell_bool); (· rfl); (· rfl); (· exact H); (· exact h); (· exact ledA_get _ _ h17); (simp only [Act.put, List.setIfInBounds_toArray, List.set_cons_zero, List.set_cons_succ])))
    go_ret
    exact ⟨rfl, H⟩
  · rw [decide_eq_false c1] at m1
    have e0 : hasP P (a : Int) = false := decide_eq_false fun hm => by have := hP _ hm; omega
    rw [e0]
    clear hP
    go_enter Try.func33, Try.ntmps33
    go_wp2_with (first | go_skip | ((with_reducible apply lthere_call H); (· exact h); (clear H; intro _ H)) | ((with_reducible refine Ans.callH (by assumption) H ?_); clear H; intro _ H))
    go_ret
    exact ⟨rfl, H⟩
theorem key_nat (a b c : Nat) (ha : a ≤ 255) (hb : b ≤ 255) (hc : c ≤ 255) : KL (.agg (ends (a : Int) (b : Int) (c : Int))) := key_ok (by omega) (by omega) (by omega)
end
end Go.Proofs.Ytgobnamhdkbbeaa
