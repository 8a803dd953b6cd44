/- Part 11 of what ProofNettingsPlay stands on: Cheap2, Rnd2, Rnd3, Cheap3, Rnd4, Rnd5, Rnd6, Rnd12, RdFlw, Fair8, Net1, Net2, ClipF, NetK. -/
import Derived.Test.YtgobnamhdkbbeaaGreatNetPPart10
/- The round that is found is one, and costs less than nothing: plain laws. -/
namespace Go.Proofs.YtgobnamhdkbbeaaGreat
set_option linter.unusedVariables false
set_option linter.unusedSimpArgs false
theorem nodup_range {f : Nat → Nat} {n : Nat} (h : ∀ a b, a < b → b < n → f a ≠ f b) : ((List.range n).map f).Nodup := by
  unfold List.Nodup
  rw [List.pairwise_map]
  refine List.Pairwise.imp_of_mem ?_ List.pairwise_lt_range
  intro a b ha hb hab
  exact h a b hab (by simpa using hb)
/-- Of so many there are two that are the same. -/
theorem two_same {f : Nat → Nat} {n m : Nat} (hb : ∀ i, i < n → f i < m) (hn : m < n) : ∃ a b, a < b ∧ b < n ∧ f a = f b := by
  apply Classical.byContradiction
  intro hno
  have h := nodup_range (f := f) (n := n) (fun a b hab hbn e => hno ⟨a, b, hab, hbn, e⟩)
  have := nodup_le m _ h (fun x hx => by
    obtain ⟨i, hi, rfl⟩ := List.mem_map.1 hx
    exact hb i (by simpa using hi))
  simp at this
  omega
theorem walk_back {F : List Edg} {P : Nat → Nat} {C : Nat → Int} (he : ∀ v, P v ≠ 0 → (⟨P v, v, C v⟩ : Edg) ∈ F) : ∀ j v, (∀ i, i < j → P (back P i v) ≠ 0) → ∃ w, w = sumC P C j v ∧ Wk F j v w
  | 0, v, _ => ⟨0, rfl, .nil v⟩
  | j + 1, v, h => by
    have h0 : P v ≠ 0 := h 0 (by omega)
    obtain ⟨w, hw, hk⟩ := walk_back he j (P v) (fun i hi => h (i + 1) (by omega))
    refine ⟨w + C v, ?_, hk.snoc (he v h0)⟩
    show w + C v = C v + sumC P C j (P v)
    omega
section
variable {F : List Edg} {s : Srch}
/-- Nobody's is never reached. -/
theorem InvL.never (hF : InH F) (h : InvL F 16 s) : ∀ i, back s.P i s.last ≠ 0 := by
  obtain ⟨C, hp⟩ := h.par
  obtain ⟨hl, D0, hD0, hlt⟩ := h.last (by omega)
  have hP17 : ∀ v, s.P v < 17 := fun v => by
    by_cases e : s.P v = 0
    · omega
    · have := hF _ (hp.edge v e); simp only at this; omega
  have hb17 : ∀ i, back s.P i s.last < 17 := fun i => by
    cases i with
    | zero => exact h.lt
    | succ i => rw [back_succ]; exact hP17 _
  intro i
  induction i using Nat.strongRecOn with
  | ind i ih =>
    cases i with
    | zero => exact hl
    | succ j =>
      intro h0
      have hj : j ≤ 15 := by
        apply Classical.byContradiction
        intro hn
        obtain ⟨a, b, hab, hb, e⟩ := two_same (f := fun i => back s.P i s.last) (n := 18) (m := 17) (fun i _ => hb17 i) (by omega)
        have h1 := back_add s.P a (j + 1 - b) s.last
        have h2 := back_add s.P b (j + 1 - b) s.last
        replace e : back s.P a s.last = back s.P b s.last := e
        rw [e, ← h2, show b + (j + 1 - b) = j + 1 by omega, h0] at h1
        exact ih (a + (j + 1 - b)) (by omega) h1
      have hne : ∀ i, i < j → s.P (back s.P i s.last) ≠ 0 := fun i hi => by rw [← back_succ s.P i s.last]; exact ih (i + 1) (by omega)
      obtain ⟨w, hw, hk⟩ := walk_back hp.edge j s.last hne
      have h1 := hD0 j s.last w (by omega) hk
      have h2 := tele hp.tight j s.last hne
      rw [back_succ] at h0
      have h3 := hp.root _ h0
      omega
theorem min_per {P : Nat → Nat} {a : Nat} : ∀ q, 1 ≤ q → back P q a = a → ∃ m, 1 ≤ m ∧ back P m a = a ∧ ∀ i, 1 ≤ i → i < m → back P i a ≠ a := by
  intro q
  induction q using Nat.strongRecOn with
  | ind q ih =>
    intro h1 hq
    by_cases hx : ∃ i, 1 ≤ i ∧ i < q ∧ back P i a = a
    · obtain ⟨i, hi, hlt, e⟩ := hx
      exact ih i hlt hi e
    · exact ⟨q, h1, hq, fun i hi hlt e => hx ⟨i, hi, hlt, e⟩⟩
theorem per_inj {P : Nat → Nat} {a m : Nat} (hm : back P m a = a) (hmin : ∀ i, 1 ≤ i → i < m → back P i a ≠ a) : ∀ i j, i < j → j < m → back P i a ≠ back P j a := by
  intro i j hij hj e
  have h1 := back_add P i (m - j) a
  have h2 := back_add P j (m - j) a
  rw [e, ← h2, show j + (m - j) = m by omega, hm] at h1
  exact hmin (i + (m - j)) (by omega) (by omega) h1
theorem orbit_cyc {P : Nat → Nat} {a m : Nat} (h1 : 1 ≤ m) (hm : back P m a = a) (hmin : ∀ i, 1 ≤ i → i < m → back P i a ≠ a) :
    ∀ f k, k ≤ m → m < f + k → orbit P f (back P k a) ((List.range k).map fun i => back P i a) = (List.range m).map fun i => back P i a
  | 0, k, hk, hf => by omega
  | f + 1, k, hk, hf => by
    by_cases e : k = m
    · subst e
      rw [orbit_in]
      rw [hm]
      exact List.mem_map.2 ⟨0, by simp; omega, rfl⟩
    · rw [orbit_out]
      · have := orbit_cyc h1 hm hmin f (k + 1) (by omega) (by omega)
        rw [List.range_succ, List.map_append] at this
        rw [← back_succ P k a]
        exact this
      · intro hmem
        obtain ⟨i, hi, e2⟩ := List.mem_map.1 hmem
        exact per_inj hm hmin i k (by simpa using hi) (by omega) e2
/-- Sums. -/
def rsum (f : Nat → Int) : Nat → Int
  | 0 => 0
  | n + 1 => rsum f n + f n
theorem rsum_congr {f g : Nat → Int} : ∀ n, (∀ i, i < n → f i = g i) → rsum f n = rsum g n
  | 0, _ => rfl
  | n + 1, h => by rw [rsum, rsum, rsum_congr n (fun i hi => h i (by omega)), h n (by omega)]
theorem rsum_shift (f : Nat → Int) : ∀ n, rsum (fun i => f (i + 1)) n + f 0 = rsum f (n + 1)
  | 0 => by simp [rsum]
  | n + 1 => by
    have := rsum_shift f n
    rw [rsum, rsum, ← this]
    omega
theorem rsum_le {f g : Nat → Int} : ∀ n, (∀ i, i < n → f i ≤ g i) → rsum f n ≤ rsum g n
  | 0, _ => Int.le_refl _
  | n + 1, h => by
    have := rsum_le n (fun i hi => h i (by omega))
    have := h n (by omega)
    rw [rsum, rsum]
    omega
theorem rsum_next (f : Nat → Int) (m : Nat) (hm : 1 ≤ m) : rsum (fun i => f ((i + 1) % m)) m = rsum f m := by
  obtain ⟨k, rfl⟩ : ∃ k, m = k + 1 := ⟨m - 1, by omega⟩
  rw [← rsum_shift f k]
  show rsum (fun i => f ((i + 1) % (k + 1))) k + f ((k + 1) % (k + 1)) = _
  rw [Nat.mod_self, rsum_congr k (fun i hi => by rw [Nat.mod_eq_of_lt (by omega)])]
/-- A round that costs less than nothing, of edges. -/
structure IsRnd (E : List Edg) (T : List Nat) (tf : Nat → Nat) (C : Nat → Int) : Prop where
  pos : 1 ≤ T.length
  max : T.length ≤ 16
  get : ∀ i, i < T.length → T[i]? = some (tf i)
  rng : ∀ i, i < T.length → 1 ≤ tf i ∧ tf i ≤ 16
  inj : ∀ i j, i < j → j < T.length → tf i ≠ tf j
  least : ∀ i, i < T.length → tf 0 ≤ tf i
  edge : ∀ i, i < T.length → (⟨tf i, tf ((i + 1) % T.length), C (tf ((i + 1) % T.length))⟩ : Edg) ∈ E
  cheap : rsum (fun i => C (tf ((i + 1) % T.length))) T.length < 0
theorem idxOf_get {L : List Nat} {x : Nat} (h : x ∈ L) : L[L.idxOf x]? = some x := by
  have := List.idxOf_lt_length_iff.2 h
  rw [List.getElem?_eq_getElem this]
  simp
theorem minL_le {L : List Nat} {x : Nat} (h : x ∈ L) : minL L ≤ x := by
  have key : ∀ (M : List Nat) (a : Nat), M.foldl min a ≤ a ∧ ∀ y ∈ M, M.foldl min a ≤ y := by
    intro M
    induction M with
    | nil => intro a; exact ⟨Nat.le_refl _, by simp⟩
    | cons y M ih =>
      intro a
      have := ih (min a y)
      rw [List.foldl_cons]
      refine ⟨by omega, fun z hz => ?_⟩
      rcases List.mem_cons.1 hz with rfl | hz
      · omega
      · exact this.2 z hz
  exact (key L _).2 x h
theorem round_found {E : List Edg} (hE : InH E) {s : Srch} (hs : runS E 16 zeroS = some s) : ∃ tf C, IsRnd E (roundOf E) tf C := by
  have h := run_some hE 16 0 zeroS s InvL.zero hs
  have hnz := h.never hE
  obtain ⟨C, hp⟩ := h.par
  have hr : ∀ i, 1 ≤ back s.P i s.last ∧ back s.P i s.last ≤ 16 := fun i => by
    have h0 := hnz i
    cases i with
    | zero => have := h.lt; have : s.last ≠ 0 := h0; exact ⟨by show 1 ≤ s.last; omega, by show s.last ≤ 16; omega⟩
    | succ i =>
      rw [back_succ] at h0 ⊢
      have := hE _ (hp.edge _ h0)
      simp only at this
      omega
  obtain ⟨a, b, hab, hb, e⟩ := two_same (f := fun i => back s.P i s.last - 1) (n := 17) (m := 16) (fun i _ => by have := hr i; omega) (by omega)
  replace e : back s.P a s.last = back s.P b s.last := by
    have := hr a
    have := hr b
    replace e : back s.P a s.last - 1 = back s.P b s.last - 1 := e
    omega
  have hq : back s.P (b - a) (back s.P 16 s.last) = back s.P 16 s.last := by
    rw [← back_add, show 16 + (b - a) = b + (16 - a) by omega, back_add, ← e, ← back_add, show a + (16 - a) = 16 by omega]
  obtain ⟨m, hm1, hm, hmin⟩ := min_per (b - a) (by omega) hq
  have hra : ∀ i, 1 ≤ back s.P i (back s.P 16 s.last) ∧ back s.P i (back s.P 16 s.last) ≤ 16 := fun i => by rw [← back_add]; exact hr _
  unfold roundOf
  rw [hs]
  simp only
  generalize back s.P 16 s.last = x at *
  have hinj := per_inj hm hmin
  have hm16 : m ≤ 16 := by
    apply Classical.byContradiction
    intro hn
    obtain ⟨i, j, hij, hj, e⟩ := two_same (f := fun i => back s.P i x - 1) (n := 17) (m := 16) (fun i _ => by have := hra i; omega) (by omega)
    have := hra i
    have := hra j
    replace e : back s.P i x - 1 = back s.P j x - 1 := e
    exact hinj i j hij (by omega) (by omega)
  have ho : orbit s.P 18 x [] = (List.range m).map fun i => back s.P i x := orbit_cyc hm1 hm hmin 18 0 (by omega) (by omega)
  rw [ho]
  generalize hR : ((List.range m).map fun i => back s.P i x).reverse = R
  have hRl : R.length = m := by rw [← hR]; simp
  have hRg : ∀ i, i < m → R[i]? = some (back s.P (m - 1 - i) x) := fun i hi => by
    rw [← hR, List.getElem?_reverse (by simpa using hi)]
    rw [List.length_map, List.length_range, List.getElem?_map, List.getElem?_range (by omega)]
    rfl
  have hmem : ∀ i, i < m → back s.P i x ∈ R := fun i hi => List.mem_iff_getElem?.2 ⟨m - 1 - i, by rw [hRg _ (by omega), show m - 1 - (m - 1 - i) = i by omega]⟩
  have hmm : minL R ∈ R := minL_mem (by omega)
  have hk := List.idxOf_lt_length_iff.2 hmm
  have hkg := idxOf_get hmm
  unfold turnL
  generalize List.idxOf (minL R) R = k at *
  have hTl : (R.drop k ++ R.take k).length = m := by simp; omega
  let rf : Nat → Nat := fun i => back s.P (m - 1 - i) x
  let tf : Nat → Nat := fun i => if i + k < m then rf (i + k) else rf (i + k - m)
  have hrf : ∀ i, i + 1 < m → s.P (rf (i + 1)) = rf i := fun i hi => by
    show s.P (back s.P (m - 1 - (i + 1)) x) = back s.P (m - 1 - i) x
    rw [← back_succ s.P (m - 1 - (i + 1)) x, show m - 1 - (i + 1) + 1 = m - 1 - i by omega]
  have hrf0 : s.P (rf 0) = rf (m - 1) := by
    show s.P (back s.P (m - 1 - 0) x) = back s.P (m - 1 - (m - 1)) x
    rw [← back_succ s.P (m - 1 - 0) x, show m - 1 - 0 + 1 = m by omega, hm, Nat.sub_self]; rfl
  have htf : ∀ i, i + 1 < m → s.P (tf (i + 1)) = tf i := fun i hi => by
    show s.P (if i + 1 + k < m then rf (i + 1 + k) else rf (i + 1 + k - m)) = if i + k < m then rf (i + k) else rf (i + k - m)
    by_cases c1 : i + 1 + k < m
    · rw [if_pos c1, if_pos (by omega), show i + 1 + k = (i + k) + 1 by omega, hrf _ (by omega)]
    · rw [if_neg c1]
      by_cases c2 : i + 1 + k = m
      · rw [if_pos (by omega), show i + 1 + k - m = 0 by omega, hrf0, show m - 1 = i + k by omega]
      · rw [if_neg (by omega), show i + 1 + k - m = (i + k - m) + 1 by omega, hrf _ (by omega)]
  have htf0 : s.P (tf 0) = tf (m - 1) := by
    show s.P (if 0 + k < m then rf (0 + k) else rf (0 + k - m)) = if m - 1 + k < m then rf (m - 1 + k) else rf (m - 1 + k - m)
    rw [if_pos (by omega), Nat.zero_add]
    by_cases c1 : k = 0
    · subst c1
      rw [if_pos (by omega), hrf0, Nat.add_zero]
    · rw [if_neg (by omega), show m - 1 + k - m = k - 1 by omega]
      have := hrf (k - 1) (by omega)
      rwa [show k - 1 + 1 = k by omega] at this
  have hTg : ∀ i, i < m → (R.drop k ++ R.take k)[i]? = some (tf i) := fun i hi => by
    show _ = some (if i + k < m then rf (i + k) else rf (i + k - m))
    by_cases c : i + k < m
    · rw [if_pos c, List.getElem?_append_left (by simp; omega), List.getElem?_drop, Nat.add_comm k i, hRg _ c]
    · rw [if_neg c, List.getElem?_append_right (by simp; omega)]
      have e1 : i - (R.drop k).length = i + k - m := by simp; omega
      rw [e1, List.getElem?_take, if_pos (by omega), hRg _ (by omega)]
  have htr : ∀ i, i < m → 1 ≤ tf i ∧ tf i ≤ 16 := fun i hi => by
    show 1 ≤ (if i + k < m then rf (i + k) else rf (i + k - m)) ∧ (if i + k < m then rf (i + k) else rf (i + k - m)) ≤ 16
    split <;> exact hra _
  have hnext : ∀ i, i < m → s.P (tf ((i + 1) % m)) = tf i := fun i hi => by
    by_cases c : i + 1 < m
    · rw [Nat.mod_eq_of_lt c]; exact htf i c
    · rw [show i + 1 = m by omega, Nat.mod_self, htf0, show m - 1 = i by omega]
  have hback : ∀ j, j < m → back s.P j (tf (m - 1)) = tf (m - 1 - j) := by
    intro j
    induction j with
    | zero => intro _; rfl
    | succ j ih =>
      intro hj
      rw [back_succ, ih (by omega)]
      have := htf (m - 1 - (j + 1)) (by omega)
      rw [show m - 1 - (j + 1) + 1 = m - 1 - j by omega] at this
      exact this
  have hbm : back s.P m (tf (m - 1)) = tf (m - 1) := by
    obtain ⟨q, hq2⟩ : ∃ q, m = q + 1 := ⟨m - 1, by omega⟩
    have h1 := hback (m - 1) (by omega)
    rw [Nat.sub_self] at h1
    have h2 := back_succ s.P (m - 1) (tf (m - 1))
    rw [h1, htf0, show m - 1 + 1 = m by omega] at h2
    exact h2
  have hsum : ∀ j, j < m → sumC s.P C (j + 1) (tf j) = rsum (fun i => C (tf i)) (j + 1) := by
    intro j
    induction j with
    | zero => intro _; simp [sumC, rsum]
    | succ j ih =>
      intro hj
      have := ih (by omega)
      show C (tf (j + 1)) + sumC s.P C (j + 1) (s.P (tf (j + 1))) = rsum (fun i => C (tf i)) (j + 1) + C (tf (j + 1))
      rw [htf j hj, this]
      omega
  have hneg := hp.neg m (tf (m - 1)) hm1 hbm (fun i => by
    obtain ⟨j, hj, e⟩ := back_per hm1 hbm i
    rw [e, hback j hj]
    have := htr (m - 1 - j) (by omega)
    omega)
  have hs2 := hsum (m - 1) (by omega)
  rw [show m - 1 + 1 = m by omega] at hs2
  rw [hs2] at hneg
  refine ⟨tf, C, ?_⟩
  constructor
  · rw [hTl]; exact hm1
  · rw [hTl]; exact hm16
  · rw [hTl]; exact hTg
  · rw [hTl]; exact htr
  · rw [hTl]
    intro i j hij hj e
    have hrinj : ∀ p q, p < m → q < m → rf p = rf q → p = q := fun p q hp' hq' e => by
      rcases Nat.lt_trichotomy p q with c | c | c
      · exact absurd e.symm (hinj (m - 1 - q) (m - 1 - p) (by omega) (by omega))
      · exact c
      · exact absurd e (hinj (m - 1 - p) (m - 1 - q) (by omega) (by omega))
    replace e : (if i + k < m then rf (i + k) else rf (i + k - m)) = (if j + k < m then rf (j + k) else rf (j + k - m)) := e
    by_cases c1 : i + k < m
    · by_cases c2 : j + k < m
      · rw [if_pos c1, if_pos c2] at e
        have := hrinj _ _ c1 c2 e
        omega
      · rw [if_pos c1, if_neg c2] at e
        have := hrinj _ _ c1 (by omega) e
        omega
    · rw [if_neg c1, if_neg (by omega)] at e
      have := hrinj _ _ (by omega) (by omega) e
      omega
  · rw [hTl]
    intro i hi
    have h0 : tf 0 = minL R := by
      have h1 := hTg 0 (by omega)
      have h2 : (R.drop k ++ R.take k)[0]? = some (minL R) := by
        rw [List.getElem?_append_left (by simp; omega), List.getElem?_drop, Nat.add_zero]; exact hkg
      rw [h1] at h2
      exact Option.some.inj h2
    rw [h0]
    refine minL_le ?_
    have := List.mem_iff_getElem?.2 ⟨i, hTg i hi⟩
    rcases List.mem_append.1 this with h | h
    · exact List.mem_of_mem_drop h
    · exact List.mem_of_mem_take h
  · rw [hTl]
    intro i hi
    have h1 := htr i hi
    have h2 := hnext i hi
    have := hp.edge (tf ((i + 1) % m)) (by rw [h2]; omega)
    rwa [h2] at this
  · rw [hTl, rsum_next (fun i => C (tf i)) m hm1]
    exact hneg
end
end Go.Proofs.YtgobnamhdkbbeaaGreat

/- Rounds of debts: the reckoning. (Plain.) -/
namespace Go.Proofs.YtgobnamhdkbbeaaGreat
set_option linter.unusedSimpArgs false
set_option linter.unusedVariables false
theorem cfF_lt (x y : Flw) : cfF x y < 0 ↔ x.f < y.f ∨ (x.f = y.f ∧ x.t < y.t) := by
  have h1 : Lib.compareInt (x.f : Int) (y.f : Int) = if x.f < y.f then -1 else if y.f < x.f then 1 else 0 := by
    unfold Lib.compareInt
    simp only [Int.ofNat_lt]
  have h2 : Lib.compareInt (x.t : Int) (y.t : Int) = if x.t < y.t then -1 else if y.t < x.t then 1 else 0 := by
    unfold Lib.compareInt
    simp only [Int.ofNat_lt]
  unfold cfF
  rw [h1, h2]
  rcases Nat.lt_trichotomy x.f y.f with h | h | h
  · simp [orL, h]
  · rcases Nat.lt_trichotomy x.t y.t with k | k | k
    · simp [orL, h, k]
    · simp [orL, h, k]
    · have k2 : ¬ x.t < y.t := by omega
      simp [orL, h, k, k2]
  · have h2 : ¬ x.f < y.f := by omega
    have h3 : ¬ x.f = y.f := by omega
    simp [orL, h, h2, h3]
/-- Debts stand by their ends. -/
theorem MayD.lt {F : List Flw} (h : MayD F) : ∀ (d i : Nat) (x y : Flw), F[i]? = some x → F[i + d + 1]? = some y → x.f < y.f ∨ (x.f = y.f ∧ x.t < y.t)
  | 0, i, x, y, hx, hy => (cfF_lt x y).1 ((h.at hy).2 x (by omega) (by simpa using hx))
  | d + 1, i, x, y, hx, hy => by
    have hlt := (List.getElem?_eq_some_iff.1 hy).1
    have hz : F[i + d + 1]? = some F[i + d + 1] := List.getElem?_eq_getElem (by omega)
    have h1 := MayD.lt h d i x _ hx hz
    have h2 := (cfF_lt _ _).1 ((h.at hy).2 F[i + d + 1] (by omega) (by rw [show i + (d + 1) + 1 - 1 = i + d + 1 by omega]; exact hz))
    omega
theorem MayD.uniq {F : List Flw} (h : MayD F) {i j : Nat} {x y : Flw} (hx : F[i]? = some x) (hy : F[j]? = some y) (h1 : x.f = y.f) (h2 : x.t = y.t) : i = j := by
  rcases Nat.lt_trichotomy i j with e | e | e
  · have := h.lt (j - i - 1) i x y hx (by rw [show i + (j - i - 1) + 1 = j by omega]; exact hy)
    omega
  · exact e
  · have := h.lt (i - j - 1) j y x hy (by rw [show j + (i - j - 1) + 1 = i by omega]; exact hx)
    omega
/-- The edges of one debt, of which so much is left. -/
def edX (x : Flw) (m : Int) : List Edg := (if 0 < m then [⟨x.f, x.t, -1⟩] else []) ++ (if m < x.n then [⟨x.t, x.f, 1⟩] else [])
def edD : List Flw → List Int → List Edg
  | x :: F, m :: N => edX x m ++ edD F N
  | _, _ => []
theorem edX_mem {x : Flw} {m : Int} {e : Edg} : e ∈ edX x m ↔ (0 < m ∧ e = ⟨x.f, x.t, -1⟩) ∨ (m < x.n ∧ e = ⟨x.t, x.f, 1⟩) := by
  unfold edX
  rw [List.mem_append]
  by_cases h1 : 0 < m <;> by_cases h2 : m < x.n <;> simp [h1, h2]
theorem edD_mem {e : Edg} : ∀ {F : List Flw} {N : List Int}, e ∈ edD F N ↔ ∃ (i : Nat) (x : Flw) (m : Int), F[i]? = some x ∧ N[i]? = some m ∧ ((0 < m ∧ e = ⟨x.f, x.t, -1⟩) ∨ (m < x.n ∧ e = ⟨x.t, x.f, 1⟩))
  | [], N => by simp [edD]
  | x :: F, [] => by simp [edD]
  | x :: F, m :: N => by
    rw [edD, List.mem_append, edX_mem, edD_mem (F := F) (N := N)]
    constructor
    · rintro (h | ⟨i, y, k, h1, h2, h3⟩)
      · exact ⟨0, x, m, rfl, rfl, h⟩
      · exact ⟨i + 1, y, k, by simpa using h1, by simpa using h2, h3⟩
    · rintro ⟨i, y, k, h1, h2, h3⟩
      cases i with
      | zero => simp at h1 h2; subst h1 h2; exact .inl h3
      | succ i => exact .inr ⟨i, y, k, by simpa using h1, by simpa using h2, h3⟩
theorem edD_len : ∀ (F : List Flw) (N : List Int), (edD F N).length ≤ 2 * F.length
  | [], N => by simp [edD]
  | x :: F, [] => by simp [edD]
  | x :: F, m :: N => by
    have := edD_len F N
    rw [edD, List.length_append, edX, List.length_append, List.length_cons]
    split <;> split <;> simp <;> omega
/-- The step over which a round goes from a to b: a debt is taken of, or one the other way round is given back. -/
def StepIs (F : List Flw) (N : List Int) (a b i : Nat) (back : Bool) : Prop := ∃ (x : Flw) (m : Int), F[i]? = some x ∧ N[i]? = some m ∧
  ((back = false ∧ x.f = a ∧ x.t = b ∧ 0 < m) ∨ (back = true ∧ x.f = b ∧ x.t = a ∧ m < x.n ∧ ∀ (j : Nat) (y : Flw) (k : Int), F[j]? = some y → N[j]? = some k → y.f = a → y.t = b → ¬ 0 < k))
theorem StepIs.det {F : List Flw} {N : List Int} (h : MayD F) {a b i j : Nat} {p q : Bool} (h1 : StepIs F N a b i p) (h2 : StepIs F N a b j q) : i = j ∧ p = q := by
  obtain ⟨x, m, x1, x2, ⟨rfl, x3, x4, x5⟩ | ⟨rfl, x3, x4, x5, x6⟩⟩ := h1
  · obtain ⟨y, k, y1, y2, ⟨rfl, y3, y4, y5⟩ | ⟨rfl, y3, y4, y5, y6⟩⟩ := h2
    · exact ⟨h.uniq x1 y1 (by omega) (by omega), rfl⟩
    · exact absurd x5 (y6 i x m x1 x2 x3 x4)
  · obtain ⟨y, k, y1, y2, ⟨rfl, y3, y4, y5⟩ | ⟨rfl, y3, y4, y5, y6⟩⟩ := h2
    · exact absurd y5 (x6 j y k y1 y2 y3 y4)
    · exact ⟨h.uniq x1 y1 (by omega) (by omega), rfl⟩
theorem StepIs.ex {F : List Flw} {N : List Int} (hl : N.length = F.length) {e : Edg} (he : e ∈ edD F N) : ∃ i back, StepIs F N e.f e.t i back ∧ (if back then (1 : Int) else -1) ≤ e.c := by
  obtain ⟨i, x, m, h1, h2, ⟨h3, rfl⟩ | ⟨h3, rfl⟩⟩ := edD_mem.1 he
  · exact ⟨i, false, ⟨x, m, h1, h2, .inl ⟨rfl, rfl, rfl, h3⟩⟩, by simp⟩
  · by_cases hf : ∃ (j : Nat) (y : Flw) (k : Int), F[j]? = some y ∧ N[j]? = some k ∧ y.f = x.t ∧ y.t = x.f ∧ 0 < k
    · obtain ⟨j, y, k, g1, g2, g3, g4, g5⟩ := hf
      exact ⟨j, false, ⟨y, k, g1, g2, .inl ⟨rfl, g3, g4, g5⟩⟩, by simp⟩
    · exact ⟨i, true, ⟨x, m, h1, h2, .inr ⟨rfl, rfl, rfl, h3, fun j y k g1 g2 g3 g4 g5 => hf ⟨j, y, k, g1, g2, g3, g4, g5⟩⟩⟩, by simp⟩
end Go.Proofs.YtgobnamhdkbbeaaGreat

/- Rounds of debts: what a round does. (Plain.) -/
namespace Go.Proofs.YtgobnamhdkbbeaaGreat
set_option linter.unusedSimpArgs false
set_option linter.unusedVariables false
/-- The steps of a way round. -/
def StepsAre (F : List Flw) (N : List Int) (T : List Nat) (S : List (Nat × Bool)) : Prop := S.length = T.length ∧ ∀ k, k < T.length → ∃ i b, S[k]? = some (i, b) ∧ StepIs F N (T.getD k 0) (T.getD ((k + 1) % T.length) 0) i b
theorem StepsAre.det {F : List Flw} {N : List Int} (h : MayD F) {T : List Nat} {S S' : List (Nat × Bool)} (h1 : StepsAre F N T S) (h2 : StepsAre F N T S') : S = S' := by
  refine List.ext_getElem? fun k => ?_
  by_cases hk : k < T.length
  · obtain ⟨i, b, e1, s1⟩ := h1.2 k hk
    obtain ⟨j, c, e2, s2⟩ := h2.2 k hk
    obtain ⟨rfl, rfl⟩ := s1.det h s2
    rw [e1, e2]
  · rw [List.getElem?_eq_none (by rw [h1.1]; omega), List.getElem?_eq_none (by rw [h2.1]; omega)]
/-- The most that goes over a step. -/
def mostS (F : List Flw) (N : List Int) (i : Nat) (b : Bool) : Int := if b then (F.map Flw.n).getD i 0 - N.getD i 0 else N.getD i 0
/-- The most that goes over all. -/
def minS (F : List Flw) (N : List Int) (m : Int) : List (Nat × Bool) → Int
  | [] => m
  | (i, b) :: S => minS F N (min m (mostS F N i b)) S
/-- What is left, when so much went over these steps. -/
def goS (n : Int) : List (Nat × Bool) → List Int → List Int
  | [], N => N
  | (i, b) :: S, N => goS n S (N.set i (N.getD i 0 + if b then n else -n))
theorem minS_snoc (F : List Flw) (N : List Int) (i : Nat) (b : Bool) : ∀ (S : List (Nat × Bool)) (m : Int), minS F N m (S ++ [(i, b)]) = min (minS F N m S) (mostS F N i b)
  | [], m => rfl
  | (j, c) :: S, m => minS_snoc F N i b S _
theorem goS_snoc (n : Int) (i : Nat) (b : Bool) : ∀ (S : List (Nat × Bool)) (N : List Int), goS n (S ++ [(i, b)]) N = (goS n S N).set i ((goS n S N).getD i 0 + if b then n else -n)
  | [], N => rfl
  | (j, c) :: S, N => goS_snoc n i b S _
theorem goS_len (n : Int) : ∀ (S : List (Nat × Bool)) (N : List Int), (goS n S N).length = N.length
  | [], N => rfl
  | (j, c) :: S, N => by rw [goS, goS_len n S]; simp
theorem minS_le (F : List Flw) (N : List Int) : ∀ (S : List (Nat × Bool)) (m : Int), minS F N m S ≤ m ∧ ∀ x ∈ S, minS F N m S ≤ mostS F N x.1 x.2
  | [], m => ⟨Int.le_refl _, fun x hx => by cases hx⟩
  | (j, c) :: S, m => by
    have ih := minS_le F N S (min m (mostS F N j c))
    refine ⟨by rw [minS]; omega, fun x hx => ?_⟩
    rcases List.mem_cons.1 hx with rfl | hx
    · rw [minS]; simp only; omega
    · exact ih.2 x hx
theorem minS_pos (F : List Flw) (N : List Int) : ∀ (S : List (Nat × Bool)) (m : Int), 1 ≤ m → (∀ x ∈ S, 1 ≤ mostS F N x.1 x.2) → 1 ≤ minS F N m S
  | [], m, h, _ => h
  | (j, c) :: S, m, h, h2 => by
    have h3 := h2 (j, c) List.mem_cons_self
    simp only at h3
    exact minS_pos F N S _ (by omega) fun x hx => h2 x (List.mem_cons_of_mem _ hx)
/-- One round. -/
def RoundTo (F : List Flw) (N N' : List Int) : Prop := ∃ S, StepsAre F N (roundOf (edD F N)) S ∧ N' = goS (minS F N 1099511627776 S) S N
theorem RoundTo.det {F : List Flw} (h : MayD F) {N N1 N2 : List Int} (h1 : RoundTo F N N1) (h2 : RoundTo F N N2) : N1 = N2 := by
  obtain ⟨S, a1, rfl⟩ := h1
  obtain ⟨S', a2, rfl⟩ := h2
  rw [a1.det h a2]
/-- So many rounds, and what is left behind them. -/
inductive RdTr (F : List Flw) : Nat → List Int → Prop
  | nil : RdTr F 0 (F.map Flw.n)
  | step {k : Nat} {N N' : List Int} : RdTr F k N → roundOf (edD F N) ≠ [] → RoundTo F N N' → RdTr F (k + 1) N'
theorem RdTr.det {F : List Flw} (h : MayD F) : ∀ {k : Nat} {N N' : List Int}, RdTr F k N → RdTr F k N' → N = N'
  | 0, _, _, .nil, .nil => rfl
  | k + 1, _, _, .step a1 a2 a3, .step b1 b2 b3 => by
    obtain rfl := RdTr.det h a1 b1
    exact a3.det h b3
theorem RdTr.low {F : List Flw} {k : Nat} {N : List Int} (h : RdTr F k N) : ∀ j, j ≤ k → ∃ N', RdTr F j N' ∧ (j < k → roundOf (edD F N') ≠ []) := by
  induction h with
  | nil => exact fun j hj => ⟨_, (by obtain rfl : j = 0 := by omega
                                     exact .nil), fun h => by omega⟩
  | @step k N N' a1 a2 a3 ih =>
    intro j hj
    by_cases e : j = k + 1
    · subst e
      exact ⟨N', .step a1 a2 a3, fun h => by omega⟩
    · by_cases e2 : j = k
      · subst e2
        exact ⟨N, a1, fun _ => a2⟩
      · obtain ⟨M, m1, m2⟩ := ih j (by omega)
        exact ⟨M, m1, fun _ => m2 (by omega)⟩
/-- It ends behind just one number of rounds. -/
theorem RdTr.fin {F : List Flw} (h : MayD F) {k j : Nat} {N M : List Int} (h1 : RdTr F k N) (h2 : roundOf (edD F N) = []) (g1 : RdTr F j M) (g2 : roundOf (edD F M) = []) : k = j ∧ N = M := by
  rcases Nat.lt_trichotomy k j with e | e | e
  · obtain ⟨N', n1, n2⟩ := g1.low k (by omega)
    obtain rfl := h1.det h n1
    exact absurd h2 (n2 e)
  · subst e
    exact ⟨rfl, h1.det h g1⟩
  · obtain ⟨N', n1, n2⟩ := h1.low j (by omega)
    obtain rfl := g1.det h n1
    exact absurd g2 (n2 e)
/-- What is left, as debts. -/
def leftL : List Flw → List Int → List Flw
  | x :: F, m :: N => (if 0 < m then [⟨x.f, x.t, m⟩] else []) ++ leftL F N
  | _, _ => []
/-- What Least answers: the debts left, how many rounds, what is wrong (1: they may not be; q0: the quota is too little). -/
def LeastOut (q0 : Int) (F : List Flw) (q : Int) (L : List Flw) (k e : Int) : Prop :=
  ((¬ MayD F ∨ q < 0) ∧ L = [] ∧ k = 0 ∧ e = 1) ∨
  (MayD F ∧ 0 ≤ q ∧ ∃ j N, RdTr F j N ∧ (j : Int) ≤ q ∧ ((roundOf (edD F N) = [] ∧ L = leftL F N ∧ k = (j : Int) ∧ e = 0) ∨ (roundOf (edD F N) ≠ [] ∧ (j : Int) = q ∧ L = [] ∧ k = 0 ∧ e = q0)))
theorem LeastOut.det {q0 : Int} {F : List Flw} {q : Int} {L L' : List Flw} {k k' e e' : Int} (h : LeastOut q0 F q L k e) (g : LeastOut q0 F q L' k' e') : L = L' ∧ k = k' ∧ e = e' := by
  rcases h with ⟨h1, rfl, rfl, rfl⟩ | ⟨h1, h2, j, N, h3, h4, h5⟩
  · rcases g with ⟨g1, rfl, rfl, rfl⟩ | ⟨g1, g2, _⟩
    · exact ⟨rfl, rfl, rfl⟩
    · rcases h1 with h1 | h1
      · exact absurd g1 h1
      · omega
  · rcases g with ⟨g1, rfl, rfl, rfl⟩ | ⟨g1, g2, i, M, g3, g4, g5⟩
    · rcases g1 with g1 | g1
      · exact absurd h1 g1
      · omega
    · rcases h5 with ⟨h5, rfl, rfl, rfl⟩ | ⟨h5, h6, rfl, rfl, rfl⟩
      · rcases g5 with ⟨g5, rfl, rfl, rfl⟩ | ⟨g5, g6, rfl, rfl, rfl⟩
        · obtain ⟨rfl, rfl⟩ := h3.fin h1 h5 g3 g5
          exact ⟨rfl, rfl, rfl⟩
        · exfalso
          by_cases e : j = i
          · subst e
            obtain rfl := h3.det h1 g3
            exact g5 h5
          · obtain ⟨N', n1, n2⟩ := g3.low j (by omega)
            obtain rfl := h3.det h1 n1
            exact n2 (by omega) h5
      · rcases g5 with ⟨g5, rfl, rfl, rfl⟩ | ⟨g5, g6, rfl, rfl, rfl⟩
        · exfalso
          by_cases e : j = i
          · subst e
            obtain rfl := h3.det h1 g3
            exact h5 g5
          · obtain ⟨N', n1, n2⟩ := h3.low i (by omega)
            obtain rfl := g3.det h1 n1
            exact n2 (by omega) g5
        · exact ⟨rfl, rfl, rfl⟩
end Go.Proofs.YtgobnamhdkbbeaaGreat

/- The round as the document tells it: from the least party on, backward. -/
namespace Go.Proofs.YtgobnamhdkbbeaaGreat
set_option linter.unusedVariables false
set_option linter.unusedSimpArgs false
/-- The round of b, of m parties. -/
def refL (P : Nat → Nat) (b m : Nat) : List Nat := (List.range m).map fun i => back P (m - i) b
theorem refL_len (P : Nat → Nat) (b m : Nat) : (refL P b m).length = m := by simp [refL]
theorem refL_get {P : Nat → Nat} {b m i : Nat} (h : i < m) : (refL P b m)[i]? = some (back P (m - i) b) := by
  unfold refL
  rw [List.getElem?_map, List.getElem?_range h]; rfl
structure Cyc (P : Nat → Nat) (a m : Nat) : Prop where
  pos : 1 ≤ m
  max : m ≤ 16
  per : back P m a = a
  min : ∀ i, 1 ≤ i → i < m → back P i a ≠ a
  rng : ∀ i, 1 ≤ back P i a ∧ back P i a ≤ 16
theorem Cyc.at {P : Nat → Nat} {a m : Nat} (h : Cyc P a m) (k : Nat) : Cyc P (back P k a) m := by
  have hper : back P m (back P k a) = back P k a := by rw [← back_add, Nat.add_comm, back_add, h.per]
  refine ⟨h.pos, h.max, hper, fun i h1 h2 e => ?_, fun i => by rw [← back_add]; exact h.rng _⟩
  have e2 : ∀ j, back P (i + j) (back P k a) = back P j (back P k a) := fun j => by rw [back_add, e]
  obtain ⟨j, hj, ej⟩ := back_per h.pos h.per k
  have hb : back P (m - j) (back P k a) = a := by rw [ej, ← back_add, show j + (m - j) = m by omega, h.per]
  have h3 := e2 (m - j)
  rw [Nat.add_comm, back_add, hb] at h3
  exact h.min i h1 h2 h3
theorem round_cyc {E : List Edg} (hE : InH E) {s : Srch} (hs : runS E 16 zeroS = some s) : ∃ m, Cyc s.P (back s.P 16 s.last) m ∧ roundOf E = turnL ((List.range m).map fun i => back s.P i (back s.P 16 s.last)).reverse := by
  have h := run_some hE 16 0 zeroS s InvL.zero hs
  have hnz := h.never hE
  obtain ⟨C, hp⟩ := h.par
  have hr : ∀ i, 1 ≤ back s.P i s.last ∧ back s.P i s.last ≤ 16 := fun i => by
    have h0 := hnz i
    cases i with
    | zero => have := h.lt; have : s.last ≠ 0 := h0; exact ⟨by show 1 ≤ s.last; omega, by show s.last ≤ 16; omega⟩
    | succ i =>
      rw [back_succ] at h0 ⊢
      have := hE _ (hp.edge _ h0)
      simp only at this
      omega
  obtain ⟨a, b, hab, hb, e⟩ := two_same (f := fun i => back s.P i s.last - 1) (n := 17) (m := 16) (fun i _ => by have := hr i; omega) (by omega)
  replace e : back s.P a s.last = back s.P b s.last := by
    have := hr a
    have := hr b
    replace e : back s.P a s.last - 1 = back s.P b s.last - 1 := e
    omega
  have hq : back s.P (b - a) (back s.P 16 s.last) = back s.P 16 s.last := by
    rw [← back_add, show 16 + (b - a) = b + (16 - a) by omega, back_add, ← e, ← back_add, show a + (16 - a) = 16 by omega]
  obtain ⟨m, hm1, hm, hmin⟩ := min_per (b - a) (by omega) hq
  have hra : ∀ i, 1 ≤ back s.P i (back s.P 16 s.last) ∧ back s.P i (back s.P 16 s.last) ≤ 16 := fun i => by rw [← back_add]; exact hr _
  unfold roundOf
  rw [hs]
  simp only
  generalize back s.P 16 s.last = x at *
  have hinj := per_inj hm hmin
  have hm16 : m ≤ 16 := by
    apply Classical.byContradiction
    intro hn
    obtain ⟨i, j, hij, hj, e⟩ := two_same (f := fun i => back s.P i x - 1) (n := 17) (m := 16) (fun i _ => by have := hra i; omega) (by omega)
    have := hra i
    have := hra j
    replace e : back s.P i x - 1 = back s.P j x - 1 := e
    exact hinj i j hij (by omega) (by omega)
  have ho : orbit s.P 18 x [] = (List.range m).map fun i => back s.P i x := orbit_cyc hm1 hm hmin 18 0 (by omega) (by omega)
  rw [ho]
  exact ⟨m, ⟨hm1, hm16, hm, hmin, hra⟩, rfl⟩
theorem turn_ref {P : Nat → Nat} {x m : Nat} (h : Cyc P x m) : ∃ b k, k < m ∧ b = back P k x ∧ (∀ i, b ≤ back P i x) ∧ turnL ((List.range m).map fun i => back P i x).reverse = refL P b m := by
  have hm1 := h.pos
  generalize hR : ((List.range m).map fun i => back P i x).reverse = R
  have hRl : R.length = m := by rw [← hR]; simp
  have hRg : ∀ i, i < m → R[i]? = some (back P (m - 1 - i) x) := fun i hi => by
    rw [← hR, List.getElem?_reverse (by simpa using hi)]
    rw [List.length_map, List.length_range, List.getElem?_map, List.getElem?_range (by omega)]
    rfl
  have hmem : ∀ i, i < m → back P i x ∈ R := fun i hi => List.mem_iff_getElem?.2 ⟨m - 1 - i, by rw [hRg _ (by omega), show m - 1 - (m - 1 - i) = i by omega]⟩
  have hmm : minL R ∈ R := minL_mem (by omega)
  have hk := List.idxOf_lt_length_iff.2 hmm
  have hkg := idxOf_get hmm
  have hle : ∀ i, minL R ≤ back P i x := fun i => by
    obtain ⟨j, hj, e⟩ := back_per hm1 h.per i
    rw [e]
    exact minL_le (hmem j hj)
  unfold turnL
  generalize List.idxOf (minL R) R = k at *
  have hb : minL R = back P (m - 1 - k) x := by
    rw [hRg k (by omega)] at hkg
    exact (Option.some.inj hkg).symm
  refine ⟨minL R, m - 1 - k, by omega, hb, hle, ?_⟩
  rw [hb]
  apply List.ext_getElem?
  intro i
  by_cases hi : i < m
  · rw [refL_get hi, ← back_add]
    by_cases c : i + k < m
    · rw [List.getElem?_append_left (by simp; omega), List.getElem?_drop, Nat.add_comm k i, hRg _ c, show m - 1 - k + (m - i) = m + (m - 1 - (i + k)) by omega, back_add, h.per]
    · rw [List.getElem?_append_right (by simp; omega)]
      have e1 : i - (R.drop k).length = i + k - m := by simp; omega
      rw [e1, List.getElem?_take, if_pos (by omega), hRg _ (by omega), show m - 1 - (i + k - m) = m - 1 - k + (m - i) by omega]
  · rw [List.getElem?_eq_none (by simp; omega), List.getElem?_eq_none (by rw [refL_len]; omega)]
theorem keep_in (F : List Edg) : InH (F.filter keepE) := fun e he => by
  have h := (List.mem_filter.1 he).2
  unfold keepE at h
  rw [Bool.and_eq_true] at h
  have h1 := mayP_true h.1
  have h2 := mayP_true h.2
  omega
/-- How the document builds it. -/
def buildL (P : Nat → Nat) (b j : Nat) : List Nat := b :: (List.range j).map fun i => back P (j - i) b
theorem buildL_succ (P : Nat → Nat) (b j : Nat) : buildL P b (j + 1) = [b, back P (j + 1) b] ++ (buildL P b j).drop 1 := by
  unfold buildL
  rw [List.range_succ_eq_map, List.map_cons, List.map_map]
  simp
theorem buildL_len (P : Nat → Nat) (b j : Nat) : (buildL P b j).length = j + 1 := by simp [buildL]
theorem buildL_end {P : Nat → Nat} {b m : Nat} (h1 : 1 ≤ m) (h : back P m b = b) : buildL P b (m - 1) = refL P b m := by
  obtain ⟨k, rfl⟩ : ∃ k, m = k + 1 := ⟨m - 1, by omega⟩
  unfold buildL refL
  rw [List.range_succ_eq_map, List.map_cons, List.map_map, Nat.sub_zero, h, Nat.add_sub_cancel]
  congr 1
  apply List.map_congr_left
  intro i hi
  simp
end Go.Proofs.YtgobnamhdkbbeaaGreat

/- Rounds of debts: a round found goes, and takes something. (Plain.) -/
namespace Go.Proofs.YtgobnamhdkbbeaaGreat
set_option linter.unusedSimpArgs false
set_option linter.unusedVariables false
/-- What is left lies from 0 to the debt. -/
structure InvN (F : List Flw) (N : List Int) : Prop where
  len : N.length = F.length
  bnd : ∀ (i : Nat) (x : Flw) (m : Int), F[i]? = some x → N[i]? = some m → 0 ≤ m ∧ m ≤ x.n
theorem MayD.okX {F : List Flw} (h : MayD F) {i : Nat} {x : Flw} (hx : F[i]? = some x) : 1 ≤ x.f ∧ x.f ≤ 16 ∧ 1 ≤ x.t ∧ x.t ≤ 16 ∧ x.f ≠ x.t ∧ 1 ≤ x.n ∧ x.n ≤ 1099511627776 := by
  have := (h.at hx).1
  simp [okD, mayP] at this
  omega
theorem InvN.start {F : List Flw} (h : MayD F) : InvN F (F.map Flw.n) := by
  refine ⟨by simp, fun i x m hx hm => ?_⟩
  rw [List.getElem?_map, hx] at hm
  simp at hm
  have := h.okX hx
  omega
theorem edD_ok {F : List Flw} (h : MayD F) {N : List Int} : ∀ e ∈ edD F N, (1 ≤ e.f ∧ e.f ≤ 16) ∧ (1 ≤ e.t ∧ e.t ≤ 16) ∧ -1 ≤ e.c ∧ e.c ≤ 1 := by
  intro e he
  obtain ⟨i, x, m, h1, h2, ⟨h3, rfl⟩ | ⟨h3, rfl⟩⟩ := edD_mem.1 he
  · have := h.okX h1
    simp only; omega
  · have := h.okX h1
    simp only; omega
theorem edD_keep {F : List Flw} (h : MayD F) {N : List Int} : (edD F N).filter keepE = edD F N := by
  rw [List.filter_eq_self]
  intro e he
  have := edD_ok h e he
  simp [keepE, mayP]
  omega
theorem edD_in {F : List Flw} (h : MayD F) {N : List Int} : InH (edD F N) := by
  rw [← edD_keep h]
  exact keep_in _
theorem edD_rnd {F : List Flw} (h : MayD F) {N : List Int} (hr : roundOf (edD F N) ≠ []) : ∃ tf C, IsRnd (edD F N) (roundOf (edD F N)) tf C := by
  cases hs : runS (edD F N) 16 zeroS with
  | none =>
    exfalso
    apply hr
    unfold roundOf
    rw [hs]
  | some s => exact round_found (edD_in h) hs
/-- What a step costs. -/
def cst (b : Bool) : Int := if b then 1 else -1
def cstL (S : List (Nat × Bool)) : Int := (S.map fun x => cst x.2).sum
theorem sum_set : ∀ (N : List Int) (i : Nat) (v : Int), i < N.length → (N.set i v).sum = N.sum + v - N.getD i 0
  | [], i, v, h => by simp at h
  | m :: N, 0, v, _ => by simp; omega
  | m :: N, i + 1, v, h => by
    have := sum_set N i v (by simpa using h)
    simp at this ⊢
    omega
theorem goS_sum (n : Int) : ∀ (S : List (Nat × Bool)) (N : List Int), (∀ x ∈ S, x.1 < N.length) → (goS n S N).sum = N.sum + n * cstL S
  | [], N, _ => by simp [goS, cstL]
  | (i, b) :: S, N, h => by
    have h1 := h (i, b) List.mem_cons_self
    rw [goS, goS_sum n S _ (fun x hx => by rw [List.length_set]; exact h x (List.mem_cons_of_mem _ hx)), sum_set _ _ _ h1]
    have : cstL ((i, b) :: S) = cst b + cstL S := by simp [cstL]
    rw [this, Int.mul_add]
    have : (if b then n else -n) = n * cst b := by cases b <;> simp [cst]
    rw [this]
    simp only
    omega
theorem goS_other (n : Int) (j : Nat) : ∀ (S : List (Nat × Bool)) (N : List Int), (∀ x ∈ S, x.1 ≠ j) → (goS n S N)[j]? = N[j]?
  | [], N, _ => rfl
  | (i, b) :: S, N, h => by
    have h1 := h (i, b) List.mem_cons_self
    rw [goS, goS_other n j S _ (fun x hx => h x (List.mem_cons_of_mem _ hx)), List.getElem?_set_ne h1]
theorem goS_at (n : Int) (j : Nat) (c : Bool) : ∀ (S : List (Nat × Bool)) (N : List Int), (S.map Prod.fst).Nodup → (j, c) ∈ S → j < N.length → (goS n S N)[j]? = some (N.getD j 0 + if c then n else -n)
  | [], N, _, h, _ => by cases h
  | (i, b) :: S, N, hd, h, hj => by
    rw [List.map_cons, List.nodup_cons] at hd
    rw [goS]
    rcases List.mem_cons.1 h with e | h
    · cases e
      rw [goS_other n j S _ (fun x hx e => hd.1 (List.mem_map.2 ⟨x, hx, e⟩)), List.getElem?_set_self hj]
    · have hne : i ≠ j := fun e => hd.1 (List.mem_map.2 ⟨(j, c), h, e.symm⟩)
      rw [goS_at n j c S _ hd.2 h (by rw [List.length_set]; exact hj)]
      simp [List.getD_eq_getElem?_getD, List.getElem?_set_ne hne]
end Go.Proofs.YtgobnamhdkbbeaaGreat

/- Rounds of debts: the steps of a round that is found. (Plain.) -/
namespace Go.Proofs.YtgobnamhdkbbeaaGreat
set_option linter.unusedSimpArgs false
set_option linter.unusedVariables false
theorem rsum_list (f : Nat → Int) : ∀ m, ((List.range m).map f).sum = rsum f m
  | 0 => rfl
  | m + 1 => by rw [List.range_succ, List.map_append, List.sum_append, rsum_list f m]; simp [rsum]
theorem StepIs.ends {F : List Flw} {N : List Int} {a b i : Nat} {c : Bool} (h : StepIs F N a b i c) {x : Flw} (hx : F[i]? = some x) : (c = false ∧ x.f = a ∧ x.t = b) ∨ (c = true ∧ x.f = b ∧ x.t = a) := by
  obtain ⟨y, m, h1, h2, h3⟩ := h
  rw [hx] at h1
  cases h1
  rcases h3 with ⟨h3, h4, h5, _⟩ | ⟨h3, h4, h5, _⟩
  · exact .inl ⟨h3, h4, h5⟩
  · exact .inr ⟨h3, h4, h5⟩
theorem StepIs.most {F : List Flw} {N : List Int} {a b i : Nat} {c : Bool} (h : StepIs F N a b i c) : i < F.length ∧ 1 ≤ mostS F N i c := by
  obtain ⟨y, m, h1, h2, h3⟩ := h
  refine ⟨(List.getElem?_eq_some_iff.1 h1).1, ?_⟩
  unfold mostS
  simp only [List.getD_eq_getElem?_getD, List.getElem?_map, h1, h2, Option.map_some, Option.getD_some]
  rcases h3 with ⟨rfl, _, _, h4⟩ | ⟨rfl, _, _, h4, _⟩
  · simp; omega
  · simp; omega
theorem round_go {F : List Flw} {N : List Int} (h : MayD F) (I : InvN F N) (hr : roundOf (edD F N) ≠ []) : ∃ S, StepsAre F N (roundOf (edD F N)) S ∧ (∀ x ∈ S, x.1 < F.length ∧ 1 ≤ mostS F N x.1 x.2) ∧ (S.map Prod.fst).Nodup ∧ cstL S < 0 := by
  obtain ⟨tf, C, R⟩ := edD_rnd h hr
  generalize roundOf (edD F N) = T at *
  obtain ⟨r1, r2, r3, r4, r5, r6, r7, r8⟩ := R
  have hm0 : ∀ k, (k + 1) % T.length < T.length := fun k => Nat.mod_lt _ (by omega)
  have tg : ∀ k, k < T.length → T.getD k 0 = tf k := fun k hk => by rw [List.getD_eq_getElem?_getD, r3 k hk]; rfl
  have inj : ∀ a b, a < T.length → b < T.length → tf a = tf b → a = b := fun a b ha hb e => by
    rcases Nat.lt_trichotomy a b with q | q | q
    · exact absurd e (r5 a b q hb)
    · exact q
    · exact absurd e.symm (r5 b a q ha)
  have H : ∀ k, ∃ p : Nat × Bool, k < T.length → StepIs F N (tf k) (tf ((k + 1) % T.length)) p.1 p.2 ∧ cst p.2 ≤ C (tf ((k + 1) % T.length)) := fun k => by
    by_cases hk : k < T.length
    · obtain ⟨i, b, s1, s2⟩ := StepIs.ex I.len (r7 k hk)
      exact ⟨(i, b), fun _ => ⟨s1, s2⟩⟩
    · exact ⟨(0, false), fun q => absurd q hk⟩
  obtain ⟨g, hg⟩ := Classical.axiomOfChoice H
  have hsum : rsum (fun k => cst (g k).2) T.length < 0 := by
    have := rsum_le (f := fun k => cst (g k).2) (g := fun i => C (tf ((i + 1) % T.length))) T.length (fun k hk => (hg k hk).2)
    omega
  refine ⟨(List.range T.length).map g, ⟨by simp, fun k hk => ⟨(g k).1, (g k).2, by simp [hk], ?_⟩⟩, ?_, ?_, ?_⟩
  · rw [tg k hk, tg _ (hm0 k)]
    exact (hg k hk).1
  · intro x hx
    obtain ⟨k, hk, rfl⟩ := List.mem_map.1 hx
    exact (hg k (List.mem_range.1 hk)).1.most
  · rw [List.map_map]
    unfold List.Nodup
    rw [List.pairwise_iff_getElem]
    intro i j hi hj hij
    simp only [List.length_map, List.length_range] at hi hj
    simp only [List.getElem_map, List.getElem_range, Function.comp]
    intro e
    have s1 := (hg i hi).1
    have s2 := (hg j hj).1
    have hp := s1.most.1
    obtain ⟨x, hx⟩ : ∃ x, F[(g i).1]? = some x := ⟨_, List.getElem?_eq_getElem hp⟩
    have e1 := s1.ends hx
    have e2 := s2.ends (by rw [← e]; exact hx)
    have key : tf i = tf ((j + 1) % T.length) → tf ((i + 1) % T.length) = tf j → i = 0 ∧ j = 1 ∧ T.length = 2 := by
      intro q1 q2
      have q3 := inj _ _ hi (hm0 j) q1
      have q4 := inj _ _ (hm0 i) hj q2
      rw [Nat.mod_eq_of_lt (by omega : i + 1 < T.length)] at q4
      by_cases q5 : j + 1 < T.length
      · rw [Nat.mod_eq_of_lt q5] at q3; omega
      · have : j + 1 = T.length := by omega
        rw [this, Nat.mod_self] at q3
        omega
    have two : (g i).2 ≠ (g j).2 → i = 0 → j = 1 → T.length = 2 → False := by
      intro q1 q2 q3 q4
      subst q2 q3
      rw [q4] at hsum
      simp only [rsum] at hsum
      revert q1 hsum
      generalize (g 0).2 = u
      generalize (g 1).2 = v
      cases u <;> cases v <;> simp [cst]
    rcases e1 with ⟨a1, a2, a3⟩ | ⟨a1, a2, a3⟩
    · rcases e2 with ⟨b1, b2, b3⟩ | ⟨b1, b2, b3⟩
      · exact r5 i j hij hj (by omega)
      · obtain ⟨k1, k2, k3⟩ := key (by omega) (by omega)
        exact two (by rw [a1, b1]; decide) k1 k2 k3
    · rcases e2 with ⟨b1, b2, b3⟩ | ⟨b1, b2, b3⟩
      · obtain ⟨k1, k2, k3⟩ := key (by omega) (by omega)
        exact two (by rw [a1, b1]; decide) k1 k2 k3
      · exact r5 i j hij hj (by omega)
  · unfold cstL
    rw [List.map_map, rsum_list]
    exact hsum
end Go.Proofs.YtgobnamhdkbbeaaGreat

/- Rounds of debts: they come to an end. (Plain.) -/
namespace Go.Proofs.YtgobnamhdkbbeaaGreat
set_option linter.unusedSimpArgs false
set_option linter.unusedVariables false
theorem RoundTo.ex {F : List Flw} {N : List Int} (h : MayD F) (I : InvN F N) (hr : roundOf (edD F N) ≠ []) : ∃ N', RoundTo F N N' := by
  obtain ⟨S, h1, _⟩ := round_go h I hr
  exact ⟨_, S, h1, rfl⟩
theorem RoundTo.next {F : List Flw} {N N' : List Int} (h : MayD F) (I : InvN F N) (hr : roundOf (edD F N) ≠ []) (g : RoundTo F N N') : InvN F N' ∧ N'.sum + 1 ≤ N.sum := by
  obtain ⟨S, h1, h2, h3, h4⟩ := round_go h I hr
  obtain ⟨S', g1, rfl⟩ := g
  obtain rfl := h1.det h g1
  have p1 := minS_pos F N S 1099511627776 (by omega) fun x hx => (h2 x hx).2
  have p2 := (minS_le F N S 1099511627776).2
  generalize minS F N 1099511627776 S = n at *
  have hlt : ∀ x ∈ S, x.1 < N.length := fun x hx => by rw [I.len]; exact (h2 x hx).1
  refine ⟨⟨by rw [goS_len, I.len], fun j x m hx hm => ?_⟩, ?_⟩
  · have hj : j < N.length := by rw [I.len]; exact (List.getElem?_eq_some_iff.1 hx).1
    have hN : N[j]? = some N[j] := List.getElem?_eq_getElem hj
    have hb := I.bnd j x N[j] hx hN
    by_cases hin : ∃ c, (j, c) ∈ S
    · obtain ⟨c, hc⟩ := hin
      have q := p2 _ hc
      rw [goS_at n j c S N h3 hc hj] at hm
      unfold mostS at q
      simp only [List.getD_eq_getElem?_getD, List.getElem?_map, hx, hN, Option.map_some, Option.getD_some] at q hm
      cases hm
      cases c
      · simp at q ⊢; omega
      · simp at q ⊢; omega
    · rw [goS_other n j S N (fun x hx e => hin ⟨x.2, by rw [← e]; exact hx⟩), hN] at hm
      cases hm
      exact hb
  · rw [goS_sum n S N hlt]
    have : n * cstL S ≤ n * (-1) := Int.mul_le_mul_of_nonneg_left (by omega) (by omega)
    omega
theorem RdTr.inv {F : List Flw} (h : MayD F) {k : Nat} {N : List Int} (t : RdTr F k N) : InvN F N ∧ N.sum + k ≤ (F.map Flw.n).sum := by
  induction t with
  | nil => exact ⟨.start h, by simp⟩
  | @step k N N' a1 a2 a3 ih =>
    have := a3.next h ih.1 a2
    refine ⟨this.1, ?_⟩
    have e : ((k + 1 : Nat) : Int) = (k : Int) + 1 := by omega
    rw [e]
    omega
end Go.Proofs.YtgobnamhdkbbeaaGreat

/- Rounds of debts: who stands how; that nothing less is left. (Plain.) -/
namespace Go.Proofs.YtgobnamhdkbbeaaGreat
set_option linter.unusedSimpArgs false
set_option linter.unusedVariables false
theorem MayD.iff {F : List Flw} : MayD F ↔ (∀ x ∈ F, okD x = true) ∧ F.Pairwise fun y x => cfF y x < 0 := by
  constructor
  · intro h
    refine ⟨fun x hx => ?_, List.pairwise_iff_getElem.2 fun i j hi hj hij => ?_⟩
    · obtain ⟨i, hi, rfl⟩ := List.mem_iff_getElem.1 hx
      exact (h.at (List.getElem?_eq_getElem hi)).1
    · exact (cfF_lt _ _).2 (h.lt (j - i - 1) i _ _ (List.getElem?_eq_getElem hi) (by rw [show i + (j - i - 1) + 1 = j by omega]; exact List.getElem?_eq_getElem hj))
  · rintro ⟨h1, h2⟩ i x hi hx
    refine ⟨h1 x (List.mem_of_getElem? hx), fun y h0 hy => ?_⟩
    obtain ⟨hi', rfl⟩ := List.getElem?_eq_some_iff.1 hx
    obtain ⟨hj', rfl⟩ := List.getElem?_eq_some_iff.1 hy
    exact List.pairwise_iff_getElem.1 h2 (i - 1) i hj' hi' (by omega)
theorem InvN.tail {x : Flw} {F : List Flw} {m : Int} {N : List Int} (I : InvN (x :: F) (m :: N)) : InvN F N := ⟨by have := I.len; simpa using this, fun i y k h1 h2 => I.bnd (i + 1) y k (by simpa using h1) (by simpa using h2)⟩
theorem leftL_mem {y : Flw} : ∀ {F : List Flw} {N : List Int}, y ∈ leftL F N → ∃ (i : Nat) (x : Flw) (m : Int), F[i]? = some x ∧ N[i]? = some m ∧ 0 < m ∧ y = ⟨x.f, x.t, m⟩
  | [], N, h => by simp [leftL] at h
  | x :: F, [], h => by simp [leftL] at h
  | x :: F, m :: N, h => by
    rw [leftL, List.mem_append] at h
    rcases h with h | h
    · by_cases h0 : 0 < m
      · rw [if_pos h0, List.mem_singleton] at h
        exact ⟨0, x, m, rfl, rfl, h0, h⟩
      · rw [if_neg h0] at h; cases h
    · obtain ⟨i, x', m', h1, h2, h3⟩ := leftL_mem h
      exact ⟨i + 1, x', m', by simpa using h1, by simpa using h2, h3⟩
theorem leftL_in {F : List Flw} {N : List Int} : ∀ {i : Nat} {x : Flw} {m : Int}, F[i]? = some x → N[i]? = some m → 0 < m → (⟨x.f, x.t, m⟩ : Flw) ∈ leftL F N := by
  induction F generalizing N with
  | nil => intro i x m h; simp at h
  | cons y F ih =>
    intro i x m h1 h2 h3
    cases N with
    | nil => simp at h2
    | cons k N =>
      rw [leftL, List.mem_append]
      cases i with
      | zero => simp at h1 h2; subst h1 h2; exact .inl (by rw [if_pos h3]; exact List.mem_singleton.2 rfl)
      | succ i => exact .inr (ih (by simpa using h1) (by simpa using h2) h3)
theorem leftL_pw : ∀ {F : List Flw} {N : List Int}, F.Pairwise (fun y x => cfF y x < 0) → (leftL F N).Pairwise fun y x => cfF y x < 0
  | [], N, _ => by simp [leftL]
  | x :: F, [], _ => by simp [leftL]
  | x :: F, m :: N, h => by
    rw [List.pairwise_cons] at h
    have ih := leftL_pw (N := N) h.2
    rw [leftL]
    by_cases h0 : 0 < m
    · rw [if_pos h0, List.singleton_append, List.pairwise_cons]
      refine ⟨fun y hy => ?_, ih⟩
      obtain ⟨i, z, k, h1, _, _, rfl⟩ := leftL_mem hy
      exact h.1 z (List.mem_of_getElem? h1)
    · rw [if_neg h0]; exact ih
theorem leftL_may {F : List Flw} {N : List Int} (h : MayD F) (I : InvN F N) : MayD (leftL F N) := by
  refine MayD.iff.2 ⟨fun y hy => ?_, leftL_pw (MayD.iff.1 h).2⟩
  obtain ⟨i, x, m, h1, h2, h3, rfl⟩ := leftL_mem hy
  have h4 := (MayD.iff.1 h).1 x (List.mem_of_getElem? h1)
  have h5 := I.bnd i x m h1 h2
  simp only [okD, Bool.and_eq_true, decide_eq_true_eq] at h4 ⊢
  exact ⟨⟨h4.1.1, by omega⟩, by omega⟩
/-- How much of a debt there is in a list. -/
def ofF : List Flw → Nat → Nat → Int
  | [], _, _ => 0
  | x :: F, f, t => if x.f = f ∧ x.t = t then x.n else ofF F f t
theorem ofF_at : ∀ {F : List Flw} {k : Nat} {x : Flw} {f t : Nat}, F[k]? = some x → x.f = f → x.t = t → (∀ (j : Nat) (y : Flw), j < k → F[j]? = some y → ¬ (y.f = f ∧ y.t = t)) → ofF F f t = x.n
  | [], k, x, f, t, h, _, _, _ => by simp at h
  | y :: F, 0, x, f, t, h, h1, h2, _ => by simp at h; subst h; exact if_pos ⟨h1, h2⟩
  | y :: F, k + 1, x, f, t, h, h1, h2, h3 => by
    rw [ofF, if_neg (h3 0 y (by omega) rfl)]
    exact ofF_at (by simpa using h) h1 h2 fun j z hj hz => h3 (j + 1) z (by omega) (by simpa using hz)
theorem ofF_no : ∀ {F : List Flw} {f t : Nat}, (∀ y ∈ F, ¬ (y.f = f ∧ y.t = t)) → ofF F f t = 0
  | [], f, t, _ => rfl
  | y :: F, f, t, h => by
    rw [ofF, if_neg (h y List.mem_cons_self)]
    exact ofF_no fun z hz => h z (List.mem_cons_of_mem _ hz)
theorem ofF_uniq {F : List Flw} (h : MayD F) {i : Nat} {x : Flw} (hx : F[i]? = some x) : ofF F x.f x.t = x.n :=
  ofF_at hx rfl rfl fun j y hj hy ⟨h1, h2⟩ => by have := h.uniq hx hy h1.symm h2.symm; omega
theorem ofF_left {F : List Flw} {N : List Int} (h : MayD F) (I : InvN F N) {i : Nat} {x : Flw} {m : Int} (hx : F[i]? = some x) (hm : N[i]? = some m) : ofF (leftL F N) x.f x.t = m := by
  by_cases h0 : 0 < m
  · obtain ⟨j, hj, e⟩ := List.mem_iff_getElem.1 (leftL_in hx hm h0)
    have := ofF_uniq (leftL_may h I) (List.getElem?_eq_getElem hj)
    rw [e] at this
    exact this
  · have h1 := (I.bnd i x m hx hm).1
    have e0 : ofF (leftL F N) x.f x.t = 0 := ofF_no fun y hy ⟨e1, e2⟩ => by
      obtain ⟨j, z, k, g1, g2, g3, rfl⟩ := leftL_mem hy
      have := h.uniq hx g1 e1.symm e2.symm
      subst this
      rw [hm] at g2
      cases g2
      omega
    omega
theorem ofF_was {F : List Flw} {N : List Int} (h : MayD F) (I : InvN F N) {y : Flw} (hy : y ∈ leftL F N) : y.f ≤ 16 ∧ y.t ≤ 16 ∧ 1 ≤ y.n ∧ y.n ≤ ofF F y.f y.t := by
  obtain ⟨i, x, m, h1, h2, h3, rfl⟩ := leftL_mem hy
  have hx := h.okX h1
  have hb := I.bnd i x m h1 h2
  refine ⟨by show x.f ≤ 16; omega, by show x.t ≤ 16; omega, by show 1 ≤ m; omega, ?_⟩
  show m ≤ ofF F x.f x.t
  rw [ofF_uniq h h1]
  exact hb.2
/-- How somebody stands by such debts. -/
def sg (x : Flw) (p : Nat) : Int := (if x.t = p then 1 else 0) - (if x.f = p then 1 else 0)
def dl (L : List Flw) (p : Nat) : Int := (L.map fun x => sg x p * x.n).sum
def dN : List Flw → List Int → Nat → Int
  | x :: F, m :: N, p => sg x p * m + dN F N p
  | _, _, _ => 0
theorem dN_all : ∀ (F : List Flw) (p : Nat), dN F (F.map Flw.n) p = dl F p
  | [], p => rfl
  | x :: F, p => by
    have := dN_all F p
    simp only [List.map_cons, dN, this, dl, List.sum_cons]
theorem dl_left : ∀ {F : List Flw} {N : List Int} (p : Nat), InvN F N → dl (leftL F N) p = dN F N p
  | [], [], p, _ => rfl
  | [], k :: N, p, I => by have := I.len; simp at this
  | x :: F, [], p, I => by have := I.len; simp at this
  | x :: F, m :: N, p, I => by
    have ih := dl_left p I.tail
    have h0 := (I.bnd 0 x m rfl rfl).1
    show dl (_ ++ leftL F N) p = sg x p * m + dN F N p
    unfold dl at ih ⊢
    rw [List.map_append, List.sum_append, ih]
    by_cases h : 0 < m
    · rw [if_pos h]; simp [sg]
    · obtain rfl : m = 0 := by omega
      simp
theorem dN_set : ∀ {F : List Flw} {N : List Int} {i : Nat} {x : Flw} {m : Int} (v : Int) (p : Nat), F[i]? = some x → N[i]? = some m → dN F (N.set i v) p = dN F N p + sg x p * (v - m)
  | [], N, i, x, m, v, p, h, _ => by simp at h
  | y :: F, [], i, x, m, v, p, _, h => by simp at h
  | y :: F, k :: N, 0, x, m, v, p, h1, h2 => by
    simp at h1 h2
    subst h1 h2
    show sg y p * v + dN F N p = sg y p * k + dN F N p + sg y p * (v - k)
    rw [Int.mul_sub]
    omega
  | y :: F, k :: N, i + 1, x, m, v, p, h1, h2 => by
    have ih := dN_set (F := F) (N := N) (i := i) v p (by simpa using h1) (by simpa using h2)
    show sg y p * k + dN F (N.set i v) p = _ + dN F N p + _
    rw [ih]
    omega
def stepSg (F : List Flw) (p : Nat) (s : Nat × Bool) : Int := match F[s.1]? with
  | some x => sg x p * cst s.2
  | none => 0
theorem dN_go (v : Int) (p : Nat) {F : List Flw} : ∀ (S : List (Nat × Bool)) (N : List Int), N.length = F.length → (∀ x ∈ S, x.1 < F.length) → dN F (goS v S N) p = dN F N p + v * (S.map (stepSg F p)).sum
  | [], N, _, _ => by simp [goS]
  | (i, b) :: S, N, hl, h => by
    have hi := h (i, b) List.mem_cons_self
    simp only at hi
    have hx : F[i]? = some F[i] := List.getElem?_eq_getElem hi
    have hm : N[i]? = some (N[i]'(by omega)) := List.getElem?_eq_getElem (by omega)
    rw [goS, dN_go v p S _ (by rw [List.length_set]; exact hl) (fun x hx => h x (List.mem_cons_of_mem _ hx)), dN_set _ p hx hm, List.map_cons, List.sum_cons, Int.mul_add]
    have h1 : stepSg F p (i, b) = sg F[i] p * cst b := by unfold stepSg; rw [hx]
    have h2 : N.getD i 0 = N[i]'(by omega) := by rw [List.getD_eq_getElem?_getD, hm]; rfl
    rw [h1, h2, show N[i]'(by omega) + (if b then v else -v) - N[i]'(by omega) = v * cst b by cases b <;> simp [cst] <;> omega, Int.mul_left_comm]
    omega
theorem dN_round {F : List Flw} {N N' : List Int} (h : MayD F) (I : InvN F N) (hr : roundOf (edD F N) ≠ []) (g : RoundTo F N N') (p : Nat) : dN F N' p = dN F N p := by
  obtain ⟨S, h1, h2, _⟩ := round_go h I hr
  obtain ⟨S', g1, rfl⟩ := g
  obtain rfl := h1.det h g1
  obtain ⟨tf, C, R⟩ := edD_rnd h hr
  rw [dN_go _ p S N I.len fun x hx => (h2 x hx).1]
  generalize roundOf (edD F N) = T at *
  have hS : S.map (stepSg F p) = (List.range T.length).map fun k => (if tf k = p then 1 else 0) - (if tf ((k + 1) % T.length) = p then (1 : Int) else 0) := by
    apply List.ext_getElem?
    intro k
    by_cases hk : k < T.length
    · obtain ⟨i, b, e1, s1⟩ := h1.2 k hk
      have hm : (k + 1) % T.length < T.length := Nat.mod_lt _ (by omega)
      rw [List.getD_eq_getElem?_getD, R.get k hk, List.getD_eq_getElem?_getD, R.get _ hm] at s1
      simp only [Option.getD_some] at s1
      rw [List.getElem?_map, e1, List.getElem?_map, List.getElem?_range hk]
      simp only [Option.map_some, Option.some.injEq]
      obtain ⟨x, m, x1, _⟩ := id s1
      have he := s1.ends x1
      unfold stepSg
      rw [x1]
      simp only
      rcases he with ⟨rfl, e2, e3⟩ | ⟨rfl, e2, e3⟩
      · rw [← e2, ← e3]; simp [sg, cst]; omega
      · rw [← e2, ← e3]; simp [sg, cst]
    · rw [List.getElem?_eq_none (by rw [List.length_map, h1.1]; omega), List.getElem?_eq_none (by simp; omega)]
  rw [hS, rsum_list]
  have : ∀ n, rsum (fun k => (if tf k = p then 1 else 0) - (if tf ((k + 1) % T.length) = p then (1 : Int) else 0)) n = rsum (fun k => if tf k = p then 1 else 0) n - rsum (fun k => if tf ((k + 1) % T.length) = p then 1 else 0) n := by
    intro n
    induction n with
    | zero => rfl
    | succ n ih => simp only [rsum, ih]; omega
  rw [this, rsum_next (fun k => if tf k = p then (1 : Int) else 0) T.length R.pos]
  simp
theorem RdTr.stand {F : List Flw} (h : MayD F) {k : Nat} {N : List Int} (t : RdTr F k N) (p : Nat) : dl (leftL F N) p = dl F p := by
  rw [dl_left p (t.inv h).1]
  induction t with
  | nil => exact dN_all F p
  | @step k N N' a1 a2 a3 ih => rw [dN_round h (a1.inv h).1 a2 a3 p, ih]
theorem leftL_sum : ∀ {F : List Flw} {N : List Int}, InvN F N → ((leftL F N).map Flw.n).sum = N.sum
  | [], [], _ => rfl
  | [], k :: N, I => by have := I.len; simp at this
  | x :: F, [], I => by have := I.len; simp at this
  | x :: F, m :: N, I => by
    have ih := leftL_sum I.tail
    have h0 := (I.bnd 0 x m rfl rfl).1
    show ((_ ++ leftL F N).map Flw.n).sum = (m :: N).sum
    rw [List.map_append, List.sum_append, ih, List.sum_cons]
    by_cases h : 0 < m
    · rw [if_pos h]; simp
    · obtain rfl : m = 0 := by omega
      simp
/-- Where no round is found there is a height for each, and no edge leads up by more than it costs. -/
def HasPot (E : List Edg) : Prop := ∃ D : Nat → Int, (∀ i, -1000000 ≤ D i ∧ D i ≤ 0) ∧ ∀ e ∈ E, D e.t ≤ D e.f + e.c
theorem pot_of {F : List Flw} {N : List Int} (h : MayD F) (hl : F.length ≤ 240) (hr : roundOf (edD F N) = []) : HasPot (edD F N) := by
  cases hs : runS (edD F N) 16 zeroS with
  | some s =>
    obtain ⟨tf, C, R⟩ := round_found (edD_in h) hs
    have := R.pos
    rw [hr] at this
    simp at this
  | none =>
    have hE := edD_ok h (N := N)
    obtain ⟨D, h1, h2⟩ := run_none (F := edD F N) (fun e he => by have := hE e he; exact ⟨by omega, by omega⟩) 16 zeroS 0 (fun i => ⟨by simp [zeroS], by simp [zeroS]⟩) hs
    have := edD_len F N
    exact ⟨D, fun i => by have := h1 i; omega, h2⟩
theorem HasPot.sub {E E' : List Edg} (h : HasPot E) (hs : ∀ e ∈ E', e ∈ E) : HasPot E' := by
  obtain ⟨D, h1, h2⟩ := h
  exact ⟨D, h1, fun e he => h2 e (hs e he)⟩
theorem MayD.pos {F : List Flw} (h : MayD F) : ∀ x ∈ F, 1 ≤ x.n := fun x hx => by
  obtain ⟨i, hi, rfl⟩ := List.mem_iff_getElem.1 hx
  have := h.okX (List.getElem?_eq_getElem hi)
  omega
end Go.Proofs.YtgobnamhdkbbeaaGreat

/- A flow read out of a list. -/
namespace Go.Proofs.YtgobnamhdkbbeaaGreat
open Go.RowKit
theorem rd_flow {w : World} {eb eo : Nat} {F : List Flw} (R : Rd w (some ⟨eb, eo, none⟩) (flwL F)) {k : Nat} {x : Flw} (hx : F[k]? = some x) : w.cell? ⟨eb, eo + k * 3 + 0, none⟩ = some (.int .u8 (x.f : Int)) ∧ w.cell? ⟨eb, eo + k * 3 + 1, none⟩ = some (.int .u8 (x.t : Int)) ∧ w.cell? ⟨eb, eo + k * 3 + 2, none⟩ = some (.int .i64 x.n) := by
  have hk := (List.getElem?_eq_some_iff.1 hx).1
  have hrow := flwL_at F k hk
  rw [(List.getElem?_eq_some_iff.1 hx).2] at hrow
  have hlen : k * 3 + 3 ≤ (flwL F).length := by rw [flwL_len]; omega
  have key : ∀ q v, q < 3 → (flwV x)[q]? = some v → w.cell? ⟨eb, eo + k * 3 + q, none⟩ = some v := fun q v hq hv => by
    have h1 := R.get (i := k * 3 + q) (by omega)
    rw [← Nat.add_assoc] at h1
    rw [h1, ← hv, ← hrow, List.getElem?_take, if_pos hq, List.getElem?_drop, List.getElem?_eq_getElem (by omega)]
  exact ⟨key 0 _ (by omega) rfl, key 1 _ (by omega) rfl, key 2 _ (by omega) rfl⟩
end Go.Proofs.YtgobnamhdkbbeaaGreat

/- countinghouselaw08: Sum, of. -/
namespace Go.Proofs.YtgobnamhdkbbeaaGreat
open Go.RowKit
set_option linter.unusedSimpArgs false
set_option linter.unusedVariables false
def sumF (F : List Flw) : Int := (F.map Flw.n).sum
section
variable {W w : World} {l : List Thing}
set_option maxRecDepth 100000
set_option maxHeartbeats 4000000
end
end Go.Proofs.YtgobnamhdkbbeaaGreat

/- Debts of a ledger's currency, as flows; what is left of a ledger, when just so much of them is left. (Plain.) -/
namespace Go.Proofs.YtgobnamhdkbbeaaGreat
set_option linter.unusedSimpArgs false
set_option linter.unusedVariables false
theorem cfF_asym (x y : Flw) (h : cfF x y < 0) : ¬ cfF y x < 0 := by
  rw [cfF_lt] at *
  omega
/-- The debt of one to another one. -/
def dbt1 (L : List Lin) (c a b : Nat) : List Flw := if 0 < debOf L b a c then [⟨a, b, debOf L b a c⟩] else []
def dbtB (L : List Lin) (c a : Nat) : Nat → List Flw
  | 0 => []
  | b + 1 => dbtB L c a b ++ dbt1 L c a (b + 1)
def dbtA (L : List Lin) (c : Nat) : Nat → List Flw
  | 0 => []
  | a + 1 => dbtA L c a ++ dbtB L c (a + 1) 16
/-- The debts of a currency. -/
@[irreducible] def dbtS (L : List Lin) (c : Nat) : List Flw := dbtA L c 16
theorem dbt1_mem {L : List Lin} {c a b : Nat} {y : Flw} : y ∈ dbt1 L c a b ↔ y.f = a ∧ y.t = b ∧ 0 < y.n ∧ debOf L y.t y.f c = y.n := by
  unfold dbt1
  obtain ⟨f, t, n⟩ := y
  split
  · rename_i h
    simp only [List.mem_singleton, Flw.mk.injEq]
    constructor
    · rintro ⟨rfl, rfl, rfl⟩; exact ⟨rfl, rfl, h, rfl⟩
    · rintro ⟨rfl, rfl, h1, rfl⟩; exact ⟨rfl, rfl, rfl⟩
  · rename_i h
    simp only [List.not_mem_nil, false_iff]
    rintro ⟨rfl, rfl, h1, rfl⟩
    exact h h1
theorem dbtB_mem {L : List Lin} {c a : Nat} {y : Flw} : ∀ {k : Nat}, y ∈ dbtB L c a k ↔ y.f = a ∧ (1 ≤ y.t ∧ y.t ≤ k) ∧ 0 < y.n ∧ debOf L y.t y.f c = y.n
  | 0 => by simp [dbtB]; omega
  | k + 1 => by
    rw [dbtB, List.mem_append, dbtB_mem, dbt1_mem]
    constructor
    · rintro (⟨h1, h2, h3⟩ | ⟨h1, h2, h3⟩)
      · exact ⟨h1, by omega, h3⟩
      · exact ⟨h1, by omega, h3⟩
    · rintro ⟨h1, h2, h3⟩
      by_cases e : y.t = k + 1
      · exact .inr ⟨h1, e, h3⟩
      · exact .inl ⟨h1, by omega, h3⟩
theorem dbtA_mem {L : List Lin} {c : Nat} {y : Flw} : ∀ {k : Nat}, y ∈ dbtA L c k ↔ (1 ≤ y.f ∧ y.f ≤ k) ∧ (1 ≤ y.t ∧ y.t ≤ 16) ∧ 0 < y.n ∧ debOf L y.t y.f c = y.n
  | 0 => by simp [dbtA]; omega
  | k + 1 => by
    rw [dbtA, List.mem_append, dbtA_mem, dbtB_mem]
    constructor
    · rintro (⟨h1, h2⟩ | ⟨h1, h2⟩)
      · exact ⟨by omega, h2⟩
      · exact ⟨by omega, h2⟩
    · rintro ⟨h1, h2⟩
      by_cases e : y.f = k + 1
      · exact .inr ⟨e, h2⟩
      · exact .inl ⟨by omega, h2⟩
theorem dbtB_pw {L : List Lin} {c a : Nat} : ∀ k : Nat, (dbtB L c a k).Pairwise fun y x => cfF y x < 0
  | 0 => .nil
  | k + 1 => by
    rw [dbtB, List.pairwise_append]
    refine ⟨dbtB_pw k, by unfold dbt1; split <;> simp, fun x hx y hy => ?_⟩
    have h1 := dbtB_mem.1 hx
    have h2 := dbt1_mem.1 hy
    exact (cfF_lt _ _).2 (by omega)
theorem dbtA_pw {L : List Lin} {c : Nat} : ∀ k : Nat, (dbtA L c k).Pairwise fun y x => cfF y x < 0
  | 0 => .nil
  | k + 1 => by
    rw [dbtA, List.pairwise_append]
    refine ⟨dbtA_pw k, dbtB_pw 16, fun x hx y hy => ?_⟩
    have h1 := dbtA_mem.1 hx
    have h2 := dbtB_mem.1 hy
    exact (cfF_lt _ _).2 (by omega)
section
variable {S : Lgr} {c : Nat}
theorem dbtS_mem {L : List Lin} {y : Flw} : y ∈ dbtS L c ↔ (1 ≤ y.f ∧ y.f ≤ 16) ∧ (1 ≤ y.t ∧ y.t ≤ 16) ∧ 0 < y.n ∧ debOf L y.t y.f c = y.n := by unfold dbtS; exact dbtA_mem
theorem dbtS_pw (L : List Lin) : (dbtS L c).Pairwise fun y x => cfF y x < 0 := by unfold dbtS; exact dbtA_pw 16
theorem Lgr.Good.dbt (G : S.Good) (c : Nat) : MayD (dbtS S.L c) := by
  refine MayD.iff.2 ⟨fun y hy => ?_, dbtS_pw _⟩
  obtain ⟨h1, h2, h3, h4⟩ := dbtS_mem.1 hy
  have h5 := G.nums y.t y.f c
  have h6 : y.f ≠ y.t := fun e => by
    have := (Lgr.Good.noLine (G.noSelf y.t c)).2.2
    rw [e] at h4
    omega
  simp [okD, mayP]
  omega
/-- A line, as a flow. -/
def flwOf (x : Lin) : Flw := ⟨x.db.toNat, x.cr.toNat, x.deb⟩
def owes (c : Nat) (x : Lin) : Bool := (x.cu == (c : Int)) && decide (0 < x.deb)
def keptD (L : List Lin) (c : Nat) : List Flw := (L.filter (owes c)).map flwOf
theorem keptD_mem (G : S.Good) {y : Flw} : y ∈ keptD S.L c ↔ y ∈ dbtS S.L c := by
  rw [dbtS_mem]
  unfold keptD
  rw [List.mem_map]
  constructor
  · rintro ⟨x, hx, rfl⟩
    obtain ⟨hx, ho⟩ := List.mem_filter.1 hx
    unfold owes at ho
    simp at ho
    have hs := G.small hx
    have hv := G.vals hx
    unfold flwOf
    simp only
    refine ⟨by omega, by omega, ho.2, ?_⟩
    have e1 : ((x.cr.toNat : Nat) : Int) = x.cr := by omega
    have e2 : ((x.db.toNat : Nat) : Int) = x.db := by omega
    rw [e1, e2, ← ho.1]
    exact hv.2.2.1
  · rintro ⟨h1, h2, h3, h4⟩
    rcases G.split y.t y.f c with ⟨x, hx, e1, e2, e3, _, _, e4, _⟩ | ⟨_, _, _, e4, _⟩
    · refine ⟨x, List.mem_filter.2 ⟨hx, ?_⟩, ?_⟩
      · unfold owes
        simp
        exact ⟨e3, by omega⟩
      · unfold flwOf
        obtain ⟨f, t, n⟩ := y
        simp only at *
        rw [e1, e2, ← e4, h4]
        simp
    · omega
theorem flwOf_inj (G : S.Good) {x y : Lin} (hx : x ∈ S.L) (hy : y ∈ S.L) (hc : x.cu = y.cu) (h : flwOf x = flwOf y) : x = y := by
  have h1 := G.small hx
  have h2 := G.small hy
  unfold flwOf at h
  simp only [Flw.mk.injEq] at h
  refine G.uniq hx hy ?_
  unfold Lin.rank
  omega
theorem keptD_perm (G : S.Good) (c : Nat) : (keptD S.L c).Perm (dbtS S.L c) := by
  refine perm_of_nodup ?_ (pw_nodup (fun x h => absurd h (cfF_asym _ _ h)) (dbtS_pw _)) fun z => keptD_mem G
  refine nodup_map_on ((pw_nodup (fun x h => absurd h (by omega)) G.ord).filter _) fun x hx y hy e => ?_
  obtain ⟨hx1, hx2⟩ := List.mem_filter.1 hx
  obtain ⟨hy1, hy2⟩ := List.mem_filter.1 hy
  unfold owes at hx2 hy2
  simp at hx2 hy2
  exact flwOf_inj G hx1 hy1 (by omega) e
theorem Lgr.Good.dbt_few (G : S.Good) (c : Nat) : (dbtS S.L c).length ≤ 64 := by
  rw [← (keptD_perm G c).length_eq]
  unfold keptD
  rw [List.length_map]
  exact Nat.le_trans (List.length_filter_le ..) G.few
theorem sum_keptD (f : Flw → Int) (g : Lin → Int) (c : Nat) : ∀ (L : List Lin), (∀ x ∈ L, (if owes c x = true then f (flwOf x) else 0) = g x) → ((keptD L c).map f).sum = (L.map g).sum
  | [], _ => rfl
  | x :: L, h => by
    have ih := sum_keptD f g c L fun y hy => h y (List.mem_cons_of_mem _ hy)
    have hx := h x List.mem_cons_self
    unfold keptD at *
    rw [List.filter_cons]
    by_cases ho : owes c x = true
    · rw [if_pos ho] at hx ⊢
      simp only [List.map_cons, List.sum_cons, ih, hx]
    · rw [if_neg ho] at hx ⊢
      simp only [List.map_cons, List.sum_cons, ih, ← hx]
      omega
/-- The total of a currency is the sum of its debts. -/
theorem Lgr.Good.tot_dbt (G : S.Good) (c : Nat) : totL S.L c = sumF (dbtS S.L c) := by
  unfold sumF
  rw [← perm_sumI ((keptD_perm G c).map Flw.n)]
  refine (sum_keptD _ _ c S.L fun x hx => ?_).symm
  have := (G.ok x hx).deb
  unfold owes flwOf
  by_cases h1 : x.cu = (c : Int) <;> by_cases h2 : 0 < x.deb <;> simp [h1, h2]
  omega
theorem Lgr.Good.pos_dbt (G : S.Good) (c p : Nat) : posL S.L p c = dl (dbtS S.L c) p := by
  unfold dl
  rw [← perm_sumI ((keptD_perm G c).map _)]
  refine (sum_keptD _ _ c S.L fun x hx => ?_).symm
  have h0 := (G.ok x hx).deb
  have hs := G.small hx
  have e1 : (x.cr.toNat = p) ↔ (x.cr = (p : Int)) := by omega
  have e2 : (x.db.toNat = p) ↔ (x.db = (p : Int)) := by omega
  unfold owes flwOf sg
  simp only [e1, e2]
  by_cases h1 : x.cu = (c : Int) <;> by_cases h2 : 0 < x.deb <;> by_cases h3 : x.cr = (p : Int) <;> by_cases h4 : x.db = (p : Int) <;> simp [h1, h2, h3, h4] <;> omega
end
end Go.Proofs.YtgobnamhdkbbeaaGreat

/- Nettings of a ledger: what they make of it. (Plain.) -/
namespace Go.Proofs.YtgobnamhdkbbeaaGreat
set_option linter.unusedSimpArgs false
set_option linter.unusedVariables false
/-- The lines, when of a currency just these debts are left. -/
def netX (c : Nat) (Q : List Flw) (x : Lin) : Lin := if x.cu = (c : Int) then { x with deb := ofF Q x.db.toNat x.cr.toNat } else x
def netL (L : List Lin) (c : Nat) (Q : List Flw) : List Lin := L.map (netX c Q)
/-- What is gone of each debt is forgiven, one behind the other. -/
def forgL (S : Lgr) (c : Nat) (Q : List Flw) (F : List Flw) : Lgr := F.foldl (fun S x => forgS S x.t x.f c (x.n - ofF Q x.f x.t)) S
theorem forgL_snoc (S : Lgr) (c : Nat) (Q F : List Flw) (x : Flw) : forgL S c Q (F ++ [x]) = forgS (forgL S c Q F) x.t x.f c (x.n - ofF Q x.f x.t) := by unfold forgL; rw [List.foldl_append]; rfl
theorem forgL_take (S : Lgr) (c : Nat) (Q : List Flw) {F : List Flw} {k : Nat} {x : Flw} (h : F[k]? = some x) : forgL S c Q (F.take (k + 1)) = forgS (forgL S c Q (F.take k)) x.t x.f c (x.n - ofF Q x.f x.t) := by
  rw [List.take_add_one, h, Option.toList_some, forgL_snoc]
theorem forgL_good {S : Lgr} (G : S.Good) (c : Nat) (Q : List Flw) : ∀ F : List Flw, (forgL S c Q F).Good := by
  intro F
  unfold forgL
  induction F generalizing S with
  | nil => exact G
  | cons x F ih => exact ih (G.forg _ _ _ _)
theorem forgL_par (c : Nat) (Q : List Flw) : ∀ (F : List Flw) (S : Lgr), (forgL S c Q F).P = S.P
  | [], S => rfl
  | x :: F, S => by
    show (forgL (forgS S x.t x.f c (x.n - ofF Q x.f x.t)) c Q F).P = S.P
    rw [forgL_par c Q F]
    unfold forgS
    split <;> rfl
theorem forg_add {S : Lgr} (G : S.Good) {a b c : Nat} {n : Int} (h0 : 0 ≤ n) (h1 : n ≤ debOf S.L b a c) (h2 : 0 < debOf S.L b a c) : forgS S b a c n = ⟨S.P, addL S.L b a c (-n)⟩ := by
  by_cases e : n < 1
  · obtain rfl : n = 0 := by omega
    unfold forgS forgE
    simp [addL_zero]
  · have hl : isLine S.L b a c = true := by
      cases h : isLine S.L (b : Int) (a : Int) (c : Int) with
      | true => rfl
      | false => have := (Lgr.Good.noLine h).2.2; omega
    have hE : forgE S b a c n = 0 := by
      unfold forgE
      rw [if_neg e, hl, if_neg (by simp), if_neg (by omega)]
    unfold forgS
    rw [if_pos hE]
def atX (c : Nat) (x : Flw) (y : Lin) : Bool := y.at x.t x.f c
def lessX (c : Nat) (Q : List Flw) (y : Lin) (x : Flw) : Lin := if atX c x y then { y with deb := y.deb + -(x.n - ofF Q x.f x.t) } else y
/-- What debts there are behind the first ones are forgiven: the others stand as they were. -/
theorem forgL_lines (c : Nat) (Q : List Flw) : ∀ (F : List Flw) (S : Lgr), S.Good → F.Pairwise (fun y x => cfF y x < 0) → (∀ x ∈ F, 0 < x.n ∧ debOf S.L x.t x.f c = x.n ∧ 0 ≤ ofF Q x.f x.t ∧ ofF Q x.f x.t ≤ x.n) →
    (forgL S c Q F).L = S.L.map fun y => F.foldl (lessX c Q) y
  | [], S, _, _, _ => by simp [forgL]
  | x :: F, S, G, hp, h => by
    have h1 := h x List.mem_cons_self
    rw [List.pairwise_cons] at hp
    have e : forgS S x.t x.f c (x.n - ofF Q x.f x.t) = ⟨S.P, addL S.L x.t x.f c (-(x.n - ofF Q x.f x.t))⟩ := forg_add G (by omega) (by omega) (by omega)
    show (forgL (forgS S x.t x.f c (x.n - ofF Q x.f x.t)) c Q F).L = _
    rw [forgL_lines c Q F _ (G.forg _ _ _ _) hp.2 fun y hy => by
      have h2 := h y (List.mem_cons_of_mem _ hy)
      refine ⟨h2.1, ?_, h2.2.2⟩
      have h3 := (cfF_lt _ _).1 (hp.1 y hy)
      rw [e, debOf_add, if_neg (by rintro ⟨_, h4, h5, _⟩; omega)]
      omega, e]
    simp only [addL, List.map_map]
    refine List.map_congr_left fun y _ => ?_
    show _ = F.foldl (lessX c Q) (lessX c Q y x)
    rfl
theorem lessX_no (c : Nat) (Q : List Flw) : ∀ (F : List Flw) (y : Lin), (∀ x ∈ F, atX c x y = false) → F.foldl (lessX c Q) y = y
  | [], y, _ => rfl
  | x :: F, y, h => by
    have : lessX c Q y x = y := by unfold lessX; rw [if_neg (by rw [h x List.mem_cons_self]; simp)]
    rw [List.foldl_cons, this]
    exact lessX_no c Q F y fun z hz => h z (List.mem_cons_of_mem _ hz)
theorem lessX_one (c : Nat) (Q : List Flw) {y : Lin} {x : Flw} : ∀ {F : List Flw}, F.Pairwise (fun y x => cfF y x < 0) → x ∈ F → atX c x y = true → F.foldl (lessX c Q) y = { y with deb := y.deb + -(x.n - ofF Q x.f x.t) }
  | [], _, h, _ => by cases h
  | z :: F, hp, h, ha => by
    rw [List.pairwise_cons] at hp
    have ha' := Lin.at_iff.1 (show y.at x.t x.f c = true from ha)
    rw [List.foldl_cons]
    rcases List.mem_cons.1 h with rfl | h
    · have e : lessX c Q y x = { y with deb := y.deb + -(x.n - ofF Q x.f x.t) } := by unfold lessX; rw [if_pos ha]
      rw [e]
      refine lessX_no c Q F _ fun w hw => ?_
      unfold atX
      rw [Lin.at_not]
      simp only
      have := (cfF_lt _ _).1 (hp.1 w hw)
      omega
    · have e : lessX c Q y z = y := by
        unfold lessX
        rw [if_neg ?_]
        intro hz
        have := Lin.at_iff.1 (show y.at z.t z.f c = true from hz)
        have := (cfF_lt _ _).1 (hp.1 x h)
        omega
      rw [e]
      exact lessX_one c Q hp.2 h ha
section
variable {S : Lgr} {c : Nat} {N : List Int}
theorem dbtS_at {y : Flw} (h : y ∈ dbtS S.L c) : ∃ i : Nat, (dbtS S.L c)[i]? = some y := List.mem_iff_getElem?.1 h
theorem left_bnd (G : S.Good) (I : InvN (dbtS S.L c) N) {x : Flw} (h : x ∈ dbtS S.L c) : 0 ≤ ofF (leftL (dbtS S.L c) N) x.f x.t ∧ ofF (leftL (dbtS S.L c) N) x.f x.t ≤ x.n := by
  obtain ⟨i, hi⟩ := dbtS_at h
  have hlt := (List.getElem?_eq_some_iff.1 hi).1
  have hm : N[i]? = some (N[i]'(by rw [I.len]; exact hlt)) := List.getElem?_eq_getElem _
  rw [ofF_left (G.dbt c) I hi hm]
  exact I.bnd i x _ hi hm
theorem ofF_out {F : List Flw} {N : List Int} {f t : Nat} (h : ∀ y ∈ F, ¬ (y.f = f ∧ y.t = t)) : ofF (leftL F N) f t = 0 := ofF_no fun y hy ⟨h1, h2⟩ => by
  obtain ⟨i, x, m, g1, _, _, rfl⟩ := leftL_mem hy
  exact h x (List.mem_of_getElem? g1) ⟨h1, h2⟩
/-- Behind all that is forgiven just what is left is left. -/
theorem forgL_all (G : S.Good) (I : InvN (dbtS S.L c) N) : forgL S c (leftL (dbtS S.L c) N) (dbtS S.L c) = ⟨S.P, netL S.L c (leftL (dbtS S.L c) N)⟩ := by
  have h1 : (forgL S c (leftL (dbtS S.L c) N) (dbtS S.L c)).L = netL S.L c (leftL (dbtS S.L c) N) := by
    rw [forgL_lines c _ _ S G (dbtS_pw _) fun x hx => by
      have h2 := dbtS_mem.1 hx
      exact ⟨h2.2.2.1, h2.2.2.2, left_bnd G I hx⟩]
    unfold netL
    refine List.map_congr_left fun y hy => ?_
    have hs := G.small hy
    have hok := (G.ok y hy).deb
    have e1 : ((y.cr.toNat : Nat) : Int) = y.cr := by omega
    have e2 : ((y.db.toNat : Nat) : Int) = y.db := by omega
    unfold netX
    by_cases hc : y.cu = (c : Int)
    · rw [if_pos hc]
      by_cases h0 : 0 < y.deb
      · have hin : flwOf y ∈ dbtS S.L c := (keptD_mem G).1 (List.mem_map.2 ⟨y, List.mem_filter.2 ⟨hy, by simp [owes, hc, h0]⟩, rfl⟩)
        rw [lessX_one c _ (dbtS_pw _) hin (Lin.at_iff.2 ⟨e1.symm, e2.symm, hc⟩)]
        unfold flwOf
        simp only
        congr 1
        omega
      · have h00 : y.deb = 0 := by omega
        have hno : ∀ x ∈ dbtS S.L c, ¬ (x.f = y.db.toNat ∧ x.t = y.cr.toNat) := fun x hx ⟨a1, a2⟩ => by
          have h2 := dbtS_mem.1 hx
          have h3 := (G.vals hy).2.2.1
          rw [a1, a2, e1, e2, ← hc, h3] at h2
          omega
        rw [lessX_no _ _ _ _ fun x hx => by
          unfold atX
          rw [Lin.at_not]
          intro h
          exact hno x hx (by omega), ofF_out hno, ← h00]
    · rw [if_neg hc, lessX_no _ _ _ _ fun x hx => by
        unfold atX
        rw [Lin.at_not]
        intro h
        exact hc h.2.2]
  have h2 := forgL_par c (leftL (dbtS S.L c) N) (dbtS S.L c) S
  cases hf : forgL S c (leftL (dbtS S.L c) N) (dbtS S.L c) with
  | mk P L => rw [hf] at h1 h2; simp only at h1 h2; rw [h1, h2]
theorem net_good (G : S.Good) (I : InvN (dbtS S.L c) N) : (⟨S.P, netL S.L c (leftL (dbtS S.L c) N)⟩ : Lgr).Good := by rw [← forgL_all G I]; exact forgL_good G _ _ _
theorem lineOf_net (L : List Lin) (Q : List Flw) (a b d : Int) : lineOf (netL L c Q) a b d = (lineOf L a b d).map (netX c Q) := by
  unfold lineOf netL
  rw [List.find?_map]
  congr 1
  refine congrArg (fun f => List.find? f L) ?_
  funext x
  simp only [Function.comp, netX]
  split <;> rfl
theorem debOf_net (G : S.Good) (I : InvN (dbtS S.L c) N) (a b : Nat) (ha : 1 ≤ a ∧ a ≤ 16) (hb : 1 ≤ b ∧ b ≤ 16) : debOf (netL S.L c (leftL (dbtS S.L c) N)) b a c = ofF (leftL (dbtS S.L c) N) a b := by
  unfold debOf
  rw [lineOf_net]
  cases h : lineOf S.L (b : Int) (a : Int) (c : Int) with
  | none =>
    simp only [Option.map_none, Option.getD_none]
    refine (ofF_out fun y hy ⟨h1, h2⟩ => ?_).symm
    have h3 := dbtS_mem.1 hy
    have : debOf S.L b a c = 0 := by unfold debOf; rw [h]; rfl
    rw [h1, h2, this] at h3
    omega
  | some x =>
    obtain ⟨_, e1, e2, e3⟩ := lineOf_mem h
    simp only [Option.map_some, Option.getD_some]
    unfold netX
    rw [if_pos e3, e1, e2]
    simp
/-- The debts behind it are those left. -/
theorem dbt_net (G : S.Good) (I : InvN (dbtS S.L c) N) : dbtS (netL S.L c (leftL (dbtS S.L c) N)) c = leftL (dbtS S.L c) N := by
  have hM := G.dbt c
  refine pw_ext cfF_asym (dbtS_pw _) (leftL_pw (dbtS_pw _)) fun y => ?_
  rw [dbtS_mem]
  constructor
  · rintro ⟨h1, h2, h3, h4⟩
    rw [debOf_net G I _ _ h1 h2] at h4
    obtain ⟨x, hx, e1, e2⟩ : ∃ x ∈ dbtS S.L c, x.f = y.f ∧ x.t = y.t := by
      refine Classical.byContradiction fun hno => ?_
      rw [ofF_out fun x hx h => hno ⟨x, hx, h⟩] at h4
      omega
    obtain ⟨i, hi⟩ := dbtS_at hx
    have hlt := (List.getElem?_eq_some_iff.1 hi).1
    have hm : N[i]? = some (N[i]'(by rw [I.len]; exact hlt)) := List.getElem?_eq_getElem _
    have h5 := ofF_left hM I hi hm
    rw [e1, e2, h4] at h5
    have := leftL_in hi hm (by omega)
    rw [e1, e2, ← h5] at this
    exact this
  · intro hy
    have h1 := ofF_was hM I hy
    obtain ⟨i, x, m, g1, g2, g3, rfl⟩ := leftL_mem hy
    have h2 := hM.okX g1
    refine ⟨⟨h2.1, h2.2.1⟩, ⟨h2.2.2.1, h2.2.2.2.1⟩, g3, ?_⟩
    rw [debOf_net G I _ _ ⟨h2.1, h2.2.1⟩ ⟨h2.2.2.1, h2.2.2.2.1⟩]
    exact ofF_left hM I g1 g2
theorem dbt_other (L : List Lin) (Q : List Flw) {d : Nat} (hd : d ≠ c) : dbtS (netL L c Q) d = dbtS L d := by
  refine pw_ext cfF_asym (dbtS_pw _) (dbtS_pw _) fun y => ?_
  rw [dbtS_mem, dbtS_mem]
  have : debOf (netL L c Q) y.t y.f d = debOf L y.t y.f d := by
    unfold debOf
    rw [lineOf_net]
    cases h : lineOf L (y.t : Int) (y.f : Int) (d : Int) with
    | none => rfl
    | some x =>
      obtain ⟨_, e1, e2, e3⟩ := lineOf_mem h
      simp only [Option.map_some, Option.getD_some]
      unfold netX
      rw [if_neg (by omega)]
  rw [this]
end
/-- What a netting answers (how much is gone, by how many rounds, what is wrong), and makes of a ledger. -/
def NetOut (S : Lgr) (c : Nat) (q : Int) (n k e : Int) (S' : Lgr) : Prop :=
  ((c < 1 ∨ 8 < c) ∧ n = 0 ∧ k = 0 ∧ e = 1 ∧ S' = S) ∨
  ((1 ≤ c ∧ c ≤ 8) ∧ ∃ Q k0, LeastOut 13 (dbtS S.L c) q Q k0 e ∧ ((e ≠ 0 ∧ n = 0 ∧ k = 0 ∧ S' = S) ∨ (e = 0 ∧ k = k0 ∧ S' = forgL S c Q (dbtS S.L c) ∧ n = totL S.L c - totL S'.L c)))
theorem NetOut.det {S : Lgr} {c : Nat} {q n k e n' k' e' : Int} {S1 S2 : Lgr} (h : NetOut S c q n k e S1) (g : NetOut S c q n' k' e' S2) : n = n' ∧ k = k' ∧ e = e' ∧ S1 = S2 := by
  rcases h with ⟨h1, rfl, rfl, rfl, rfl⟩ | ⟨h1, Q, k0, h2, h3⟩
  · rcases g with ⟨g1, rfl, rfl, rfl, rfl⟩ | ⟨g1, _⟩
    · exact ⟨rfl, rfl, rfl, rfl⟩
    · omega
  · rcases g with ⟨g1, rfl, rfl, rfl, rfl⟩ | ⟨g1, Q2, k2, g2, g3⟩
    · omega
    · obtain ⟨rfl, rfl, rfl⟩ := h2.det g2
      rcases h3 with ⟨h3, rfl, rfl, rfl⟩ | ⟨rfl, rfl, rfl, rfl⟩
      · rcases g3 with ⟨g3, rfl, rfl, rfl⟩ | ⟨g3, _⟩
        · exact ⟨rfl, rfl, rfl, rfl⟩
        · omega
      · rcases g3 with ⟨g3, _⟩ | ⟨_, rfl, rfl, rfl⟩
        · omega
        · exact ⟨rfl, rfl, rfl, rfl⟩
theorem NetOut.good {S : Lgr} (G : S.Good) {c : Nat} {q n k e : Int} {S' : Lgr} (h : NetOut S c q n k e S') : S'.Good := by
  rcases h with ⟨_, _, _, _, rfl⟩ | ⟨_, Q, k0, _, ⟨_, _, _, rfl⟩ | ⟨_, _, rfl, _⟩⟩
  · exact G
  · exact G
  · exact forgL_good G _ _ _
end Go.Proofs.YtgobnamhdkbbeaaGreat

/- slices.Clip of flows. -/
namespace Go.Proofs.YtgobnamhdkbbeaaGreat
open Go.RowKit
set_option linter.unusedSimpArgs false
set_option linter.unusedVariables false
set_option maxRecDepth 100000
theorem clipF_nil : Ans 52 #[.slice none 0 0] (.slice none 0 0) := by
  intro w
  go_enter Tryz.func52, Tryz.ntmps52
  go_wp2
  go_ret
  exact ⟨rfl, (by repeat (first | exact Ext.refl _ | refine Ext.alloc ?_ _ | refine Ext.ext ?_ _ | refine Ext.drew ?_))⟩
theorem clipF (a : Addr) (n c : Nat) (hn : n ≤ c) (hc : c ≤ maxLen) : Ans 52 #[.slice (some a) n c] (.slice (some a) n n) := by
  intro w
  unfold maxLen at hc
  have ha : a.add 0 = a := by simp [Addr.add]
  go_enter Tryz.func52, Tryz.ntmps52
  go_wp2
  go_ret
  exact ⟨rfl, (by repeat (first | exact Ext.refl _ | refine Ext.alloc ?_ _ | refine Ext.ext ?_ _ | refine Ext.drew ?_))⟩
theorem RowT.nil7 {w : World} {e size n : Nat} {v : Value} {xs : List Value} (h : (RowT e size v n xs).ok w) : ∀ n' c', v = .slice none n' c' → n' = 0 ∧ c' = 0 := by
  intro n' c' e
  rcases h.2 with ⟨h1, _⟩ | ⟨g, cap, cur, h1, _⟩
  · rw [h1] at e; cases e; exact ⟨rfl, rfl⟩
  · rw [h1] at e; cases e
theorem clipFA (a : Option Addr) (n c : Nat) (hn : n ≤ c) (hm : c ≤ maxLen) (h0 : a = none → n = 0 ∧ c = 0) : Ans 52 #[.slice a n c] (.slice a n n) := by
  cases a with
  | none => obtain ⟨rfl, rfl⟩ := h0 rfl; exact clipF_nil
  | some a => exact clipF a n c hn hm
theorem flwL_app (F G : List Flw) : flwL (F ++ G) = flwL F ++ flwL G := by simp [flwL]
theorem flowC_one (f t n : Int) : OneCells (flow f t n).toList := by
  intro u hu
  simp [flow] at hu
  rcases hu with rfl | rfl | rfl <;> rfl
end Go.Proofs.YtgobnamhdkbbeaaGreat

/- nettings: kept, and what it is asked with. -/
namespace Go.Proofs.YtgobnamhdkbbeaaGreat
open Go.RowKit
set_option linter.unusedSimpArgs false
set_option linter.unusedVariables false
set_option maxRecDepth 100000
theorem flow_cellsK (f t n : Int) : Cells 3 #[.int .u8 f, .int .u8 t, .int .i64 n] := flow_cells f t n
theorem flow_spliceK (a b c f t n : Int) : splice (flow a b c) 0 #[.int .u8 f, .int .u8 t, .int .i64 n] = flow f t n := flow_splice a b c f t n
structure KeptR (W : World) (l : List Thing) (L : List Lin) (c n : Nat) (v i : Value) (wr : World) : Prop where
  out : ∃ k m : Nat, k ≤ n ∧ i = .int .i64 (k : Int) ∧ m = (keptD (L.take k) c).length ∧ (m = 0 → v = .slice none 0 0) ∧ Heap W (RowT 53 3 v m (flwL (keptD (L.take k) c)) :: l) wr
section
variable {W w : World} {l : List Thing}
set_option maxHeartbeats 4000000
theorem debt1_H (x : Lin) (pc c : Nat) (hx : 0 ≤ x.cu ∧ x.cu ≤ 255) (m : Cel pc #[.int .u8 (c : Int)] 31 ∈ l) (H : Heap W l w) :
    Calls Tryz.prog 27 #[.agg (line x.cr x.db x.cu x.lim x.deb), .pointer (some ⟨pc, 0, none⟩)] w fun e w' => e = .returned (.tuple #[.agg (flow x.db x.cr x.deb), .bool (owes c x)]) ∧ Heap W l w' := by
  obtain ⟨cr, db, cu, lim, deb⟩ := x
  simp only at hx ⊢
  unfold owes
  simp only
  have hg : (#[Value.int .u8 (c : Int)] : Array Value)[0]? = some (.int .u8 (c : Int)) := rfl
  by_cases h1 : cu = (c : Int)
  · have e1 : (cu == (c : Int)) = true := by simpa using h1
    rw [e1]
    by_cases h2 : 0 < deb
    all_goals
      go_enter Tryz.func27, Tryz.ntmps27
      go_wp2_with (first | go_skip | ((with_reducible show wpList _ _ _ (_ :: _) _ _); (with_reducible apply wpl_boxRH); (· rfl); (· rfl); (· exact H); (clear H; intro px _ H); (simp only [Act.put, List.setIfInBounds_toArray, List.set_cons_zero, List.set_cons_succ])) | ((with_reducible show wpList _ _ _ (_ :: _) _ _); (with_reducible apply wpl_allocRH row_flow); (· rfl); (· exact H); (clear H; intro py _ H); (simp only [Act.put, List.setIfInBounds_toArray, List.set_cons_zero, List.set_cons_succ])))
      refine wp_region_W [16] (fun l0 => ∃ pre, l0 = pre ++ _) H ⟨[_], rfl⟩ (by kernel_rfl) (by kernel_rfl) ?_
      iterate 16 (apply wpW_step; (· rfl); (· rfl); (· exact Nat.le_of_ble_eq_true rfl); (· rintro l0 ⟨pre, rfl⟩ w0 H0; (first | go_big_quiet_skip | (first | ((with_reducible apply wpQ_loadCH); (· first | exact cell_party | exact cell_cur | exact cell_i64); (· rfl); (· rfl); (· ((refine List.mem_append_right _ ?_); (repeat (first | (with_reducible exact List.mem_cons_self) | with_reducible apply List.mem_cons_of_mem)))); (· with_reducible first | exact line_g0 .. | exact line_g1 .. | exact line_g2 .. | exact line_g3 .. | exact line_g4 ..); (simp only [Act.put, List.setIfInBounds_toArray, List.set_cons_zero, List.set_cons_succ])) | ((with_reducible apply wpQ_loadCH); (· exact cell_cur); (· rfl); (· rfl); (· exact List.mem_append_right _ (List.mem_cons_of_mem _ m)); (· exact hg); (simp only [Act.put, List.setIfInBounds_toArray, List.set_cons_zero, List.set_cons_succ]))) | go_big_quiet_step (fail)); (refine wpQuiet_nil ?_); (simp only [Array.getD_eq_getD_getElem?, List.getElem?_toArray, List.getElem?_cons_succ, List.getElem?_cons_zero, Option.getD_some]; rfl)); (simp only [Act.put, List.setIfInBounds_toArray, List.set_cons_zero, List.set_cons_succ]))
      ((with_reducible apply wpW_storeR row_flow); (· rfl); (· rfl); (· rfl); (· rfl); (· with_reducible exact flow_cellsK ..); (· (repeat (first | (with_reducible exact List.mem_cons_self) | with_reducible apply List.mem_cons_of_mem))); (· (simp only [flow_sz, Nat.reduceAdd, Nat.reduceLeDiff, Nat.le_refl]; done)); (· with_reducible exact flow_spliceK ..); (· (repeat (first | (with_reducible exact Repl.here) | with_reducible apply Repl.there))); (· exact ⟨[_], rfl⟩); (simp only [Act.put, List.setIfInBounds_toArray, List.set_cons_zero, List.set_cons_succ]))
      (apply wpW_step; (· rfl); (· rfl); (· exact Nat.le_of_ble_eq_true rfl); (· rintro l0 ⟨pre, rfl⟩ w0 H0; (first | go_big_quiet_skip | fail | go_big_quiet_step (fail)); (refine wpQuiet_nil ?_); (simp only [Array.getD_eq_getD_getElem?, List.getElem?_toArray, List.getElem?_cons_succ, List.getElem?_cons_zero, Option.getD_some]; rfl)); (simp only [Act.put, List.setIfInBounds_toArray, List.set_cons_zero, List.set_cons_succ]))
      (refine wpW_nil ?_; clear H; intro _ H)
      go_wp2_with (go_skip)
      exact ret_row2H row_flow rfl rfl rfl H List.mem_cons_self rfl rfl ⟨by simp [h2], H.tail.tail⟩
  · have e1 : (cu == (c : Int)) = false := by simpa using h1
    rw [e1]
    go_enter Tryz.func27, Tryz.ntmps27
    go_wp2_with (first | go_skip | ((with_reducible show wpList _ _ _ (_ :: _) _ _); (with_reducible apply wpl_boxRH); (· rfl); (· rfl); (· exact H); (clear H; intro px _ H); (simp only [Act.put, List.setIfInBounds_toArray, List.set_cons_zero, List.set_cons_succ])) | ((with_reducible show wpList _ _ _ (_ :: _) _ _); (with_reducible apply wpl_allocRH row_flow); (· rfl); (· exact H); (clear H; intro py _ H); (simp only [Act.put, List.setIfInBounds_toArray, List.set_cons_zero, List.set_cons_succ])))
    refine wp_region_W [16] (fun l0 => ∃ pre, l0 = pre ++ _) H ⟨[_], rfl⟩ (by kernel_rfl) (by kernel_rfl) ?_
    iterate 16 (apply wpW_step; (· rfl); (· rfl); (· exact Nat.le_of_ble_eq_true rfl); (· rintro l0 ⟨pre, rfl⟩ w0 H0; (first | go_big_quiet_skip | (first | ((with_reducible apply wpQ_loadCH); (· first | exact cell_party | exact cell_cur | exact cell_i64); (· rfl); (· rfl); (· ((refine List.mem_append_right _ ?_); (repeat (first | (with_reducible exact List.mem_cons_self) | with_reducible apply List.mem_cons_of_mem)))); (· with_reducible first | exact line_g0 .. | exact line_g1 .. | exact line_g2 .. | exact line_g3 .. | exact line_g4 ..); (simp only [Act.put, List.setIfInBounds_toArray, List.set_cons_zero, List.set_cons_succ])) | ((with_reducible apply wpQ_loadCH); (· exact cell_cur); (· rfl); (· rfl); (· exact List.mem_append_right _ (List.mem_cons_of_mem _ m)); (· exact hg); (simp only [Act.put, List.setIfInBounds_toArray, List.set_cons_zero, List.set_cons_succ]))) | go_big_quiet_step (fail)); (refine wpQuiet_nil ?_); (simp only [Array.getD_eq_getD_getElem?, List.getElem?_toArray, List.getElem?_cons_succ, List.getElem?_cons_zero, Option.getD_some]; rfl)); (simp only [Act.put, List.setIfInBounds_toArray, List.set_cons_zero, List.set_cons_succ]))
    ((with_reducible apply wpW_storeR row_flow); (· rfl); (· rfl); (· rfl); (· rfl); (· with_reducible exact flow_cellsK ..); (· (repeat (first | (with_reducible exact List.mem_cons_self) | with_reducible apply List.mem_cons_of_mem))); (· (simp only [flow_sz, Nat.reduceAdd, Nat.reduceLeDiff, Nat.le_refl]; done)); (· with_reducible exact flow_spliceK ..); (· (repeat (first | (with_reducible exact Repl.here) | with_reducible apply Repl.there))); (· exact ⟨[_], rfl⟩); (simp only [Act.put, List.setIfInBounds_toArray, List.set_cons_zero, List.set_cons_succ]))
    (apply wpW_step; (· rfl); (· rfl); (· exact Nat.le_of_ble_eq_true rfl); (· rintro l0 ⟨pre, rfl⟩ w0 H0; (first | go_big_quiet_skip | fail | go_big_quiet_step (fail)); (refine wpQuiet_nil ?_); (simp only [Array.getD_eq_getD_getElem?, List.getElem?_toArray, List.getElem?_cons_succ, List.getElem?_cons_zero, Option.getD_some]; rfl)); (simp only [Act.put, List.setIfInBounds_toArray, List.set_cons_zero, List.set_cons_succ]))
    (refine wpW_nil ?_; clear H; intro _ H)
    go_wp2_with (go_skip)
    exact ret_row2H row_flow rfl rfl rfl H List.mem_cons_self rfl rfl ⟨by simp, H.tail.tail⟩
end
end Go.Proofs.YtgobnamhdkbbeaaGreat
