/- The round that is found is one, and costs less than nothing: plain laws. -/
import Derived.Test.YtglehneaphigdaaCheap
namespace Go.Proofs.Ytglehneaphigdaa
set_option linter.unusedVariables false
set_option linter.unusedSimpArgs false
theorem nodup_range {f : Nat → Nat} {n : Nat} (h : ∀ a b, a < b → b < n → f a ≠ f b) : ((List.range n).map f).Nodup := by
  unfold List.Nodup
  rw [List.pairwise_map]
  refine List.Pairwise.imp_of_mem ?_ List.pairwise_lt_range
  intro a b ha hb hab
  exact h a b hab (by simpa using hb)
/-- Of so many there are two that are the same. -/
theorem two_same {f : Nat → Nat} {n m : Nat} (hb : ∀ i, i < n → f i < m) (hn : m < n) : ∃ a b, a < b ∧ b < n ∧ f a = f b := by
  apply Classical.byContradiction
  intro hno
  have h := nodup_range (f := f) (n := n) (fun a b hab hbn e => hno ⟨a, b, hab, hbn, e⟩)
  have := nodup_le m _ h (fun x hx => by
    obtain ⟨i, hi, rfl⟩ := List.mem_map.1 hx
    exact hb i (by simpa using hi))
  simp at this
  omega
theorem walk_back {F : List Edg} {P : Nat → Nat} {C : Nat → Int} (he : ∀ v, P v ≠ 0 → (⟨P v, v, C v⟩ : Edg) ∈ F) : ∀ j v, (∀ i, i < j → P (back P i v) ≠ 0) → ∃ w, w = sumC P C j v ∧ Wk F j v w
  | 0, v, _ => ⟨0, rfl, .nil v⟩
  | j + 1, v, h => by
    have h0 : P v ≠ 0 := h 0 (by omega)
    obtain ⟨w, hw, hk⟩ := walk_back he j (P v) (fun i hi => h (i + 1) (by omega))
    refine ⟨w + C v, ?_, hk.snoc (he v h0)⟩
    show w + C v = C v + sumC P C j (P v)
    omega
section
variable {F : List Edg} {s : Srch}
/-- Nobody's is never reached. -/
theorem InvL.never (hF : InH F) (h : InvL F 16 s) : ∀ i, back s.P i s.last ≠ 0 := by
  obtain ⟨C, hp⟩ := h.par
  obtain ⟨hl, D0, hD0, hlt⟩ := h.last (by omega)
  have hP17 : ∀ v, s.P v < 17 := fun v => by
    by_cases e : s.P v = 0
    · omega
    · have := hF _ (hp.edge v e); simp only at this; omega
  have hb17 : ∀ i, back s.P i s.last < 17 := fun i => by
    cases i with
    | zero => exact h.lt
    | succ i => rw [back_succ]; exact hP17 _
  intro i
  induction i using Nat.strongRecOn with
  | ind i ih =>
    cases i with
    | zero => exact hl
    | succ j =>
      intro h0
      have hj : j ≤ 15 := by
        apply Classical.byContradiction
        intro hn
        obtain ⟨a, b, hab, hb, e⟩ := two_same (f := fun i => back s.P i s.last) (n := 18) (m := 17) (fun i _ => hb17 i) (by omega)
        have h1 := back_add s.P a (j + 1 - b) s.last
        have h2 := back_add s.P b (j + 1 - b) s.last
        replace e : back s.P a s.last = back s.P b s.last := e
        rw [e, ← h2, show b + (j + 1 - b) = j + 1 by omega, h0] at h1
        exact ih (a + (j + 1 - b)) (by omega) h1
      have hne : ∀ i, i < j → s.P (back s.P i s.last) ≠ 0 := fun i hi => by rw [← back_succ s.P i s.last]; exact ih (i + 1) (by omega)
      obtain ⟨w, hw, hk⟩ := walk_back hp.edge j s.last hne
      have h1 := hD0 j s.last w (by omega) hk
      have h2 := tele hp.tight j s.last hne
      rw [back_succ] at h0
      have h3 := hp.root _ h0
      omega
theorem min_per {P : Nat → Nat} {a : Nat} : ∀ q, 1 ≤ q → back P q a = a → ∃ m, 1 ≤ m ∧ back P m a = a ∧ ∀ i, 1 ≤ i → i < m → back P i a ≠ a := by
  intro q
  induction q using Nat.strongRecOn with
  | ind q ih =>
    intro h1 hq
    by_cases hx : ∃ i, 1 ≤ i ∧ i < q ∧ back P i a = a
    · obtain ⟨i, hi, hlt, e⟩ := hx
      exact ih i hlt hi e
    · exact ⟨q, h1, hq, fun i hi hlt e => hx ⟨i, hi, hlt, e⟩⟩
theorem per_inj {P : Nat → Nat} {a m : Nat} (hm : back P m a = a) (hmin : ∀ i, 1 ≤ i → i < m → back P i a ≠ a) : ∀ i j, i < j → j < m → back P i a ≠ back P j a := by
  intro i j hij hj e
  have h1 := back_add P i (m - j) a
  have h2 := back_add P j (m - j) a
  rw [e, ← h2, show j + (m - j) = m by omega, hm] at h1
  exact hmin (i + (m - j)) (by omega) (by omega) h1
theorem orbit_cyc {P : Nat → Nat} {a m : Nat} (h1 : 1 ≤ m) (hm : back P m a = a) (hmin : ∀ i, 1 ≤ i → i < m → back P i a ≠ a) :
    ∀ f k, k ≤ m → m < f + k → orbit P f (back P k a) ((List.range k).map fun i => back P i a) = (List.range m).map fun i => back P i a
  | 0, k, hk, hf => by omega
  | f + 1, k, hk, hf => by
    by_cases e : k = m
    · subst e
      rw [orbit_in]
      rw [hm]
      exact List.mem_map.2 ⟨0, by simp; omega, rfl⟩
    · rw [orbit_out]
      · have := orbit_cyc h1 hm hmin f (k + 1) (by omega) (by omega)
        rw [List.range_succ, List.map_append] at this
        rw [← back_succ P k a]
        exact this
      · intro hmem
        obtain ⟨i, hi, e2⟩ := List.mem_map.1 hmem
        exact per_inj hm hmin i k (by simpa using hi) (by omega) e2
/-- Sums. -/
def rsum (f : Nat → Int) : Nat → Int
  | 0 => 0
  | n + 1 => rsum f n + f n
theorem rsum_congr {f g : Nat → Int} : ∀ n, (∀ i, i < n → f i = g i) → rsum f n = rsum g n
  | 0, _ => rfl
  | n + 1, h => by rw [rsum, rsum, rsum_congr n (fun i hi => h i (by omega)), h n (by omega)]
theorem rsum_shift (f : Nat → Int) : ∀ n, rsum (fun i => f (i + 1)) n + f 0 = rsum f (n + 1)
  | 0 => by simp [rsum]
  | n + 1 => by
    have := rsum_shift f n
    rw [rsum, rsum, ← this]
    omega
theorem rsum_le {f g : Nat → Int} : ∀ n, (∀ i, i < n → f i ≤ g i) → rsum f n ≤ rsum g n
  | 0, _ => Int.le_refl _
  | n + 1, h => by
    have := rsum_le n (fun i hi => h i (by omega))
    have := h n (by omega)
    rw [rsum, rsum]
    omega
theorem rsum_next (f : Nat → Int) (m : Nat) (hm : 1 ≤ m) : rsum (fun i => f ((i + 1) % m)) m = rsum f m := by
  obtain ⟨k, rfl⟩ : ∃ k, m = k + 1 := ⟨m - 1, by omega⟩
  rw [← rsum_shift f k]
  show rsum (fun i => f ((i + 1) % (k + 1))) k + f ((k + 1) % (k + 1)) = _
  rw [Nat.mod_self, rsum_congr k (fun i hi => by rw [Nat.mod_eq_of_lt (by omega)])]
/-- A round that costs less than nothing, of edges. -/
structure IsRnd (E : List Edg) (T : List Nat) (tf : Nat → Nat) (C : Nat → Int) : Prop where
  pos : 1 ≤ T.length
  max : T.length ≤ 16
  get : ∀ i, i < T.length → T[i]? = some (tf i)
  rng : ∀ i, i < T.length → 1 ≤ tf i ∧ tf i ≤ 16
  inj : ∀ i j, i < j → j < T.length → tf i ≠ tf j
  least : ∀ i, i < T.length → tf 0 ≤ tf i
  edge : ∀ i, i < T.length → (⟨tf i, tf ((i + 1) % T.length), C (tf ((i + 1) % T.length))⟩ : Edg) ∈ E
  cheap : rsum (fun i => C (tf ((i + 1) % T.length))) T.length < 0
theorem idxOf_get {L : List Nat} {x : Nat} (h : x ∈ L) : L[L.idxOf x]? = some x := by
  have := List.idxOf_lt_length_iff.2 h
  rw [List.getElem?_eq_getElem this]
  simp
theorem minL_le {L : List Nat} {x : Nat} (h : x ∈ L) : minL L ≤ x := by
  have key : ∀ (M : List Nat) (a : Nat), M.foldl min a ≤ a ∧ ∀ y ∈ M, M.foldl min a ≤ y := by
    intro M
    induction M with
    | nil => intro a; exact ⟨Nat.le_refl _, by simp⟩
    | cons y M ih =>
      intro a
      have := ih (min a y)
      rw [List.foldl_cons]
      refine ⟨by omega, fun z hz => ?_⟩
      rcases List.mem_cons.1 hz with rfl | hz
      · omega
      · exact this.2 z hz
  exact (key L _).2 x h
theorem round_found {E : List Edg} (hE : InH E) {s : Srch} (hs : runS E 16 zeroS = some s) : ∃ tf C, IsRnd E (roundOf E) tf C := by
  have h := run_some hE 16 0 zeroS s InvL.zero hs
  have hnz := h.never hE
  obtain ⟨C, hp⟩ := h.par
  have hr : ∀ i, 1 ≤ back s.P i s.last ∧ back s.P i s.last ≤ 16 := fun i => by
    have h0 := hnz i
    cases i with
    | zero => have := h.lt; have : s.last ≠ 0 := h0; exact ⟨by show 1 ≤ s.last; omega, by show s.last ≤ 16; omega⟩
    | succ i =>
      rw [back_succ] at h0 ⊢
      have := hE _ (hp.edge _ h0)
      simp only at this
      omega
  obtain ⟨a, b, hab, hb, e⟩ := two_same (f := fun i => back s.P i s.last - 1) (n := 17) (m := 16) (fun i _ => by have := hr i; omega) (by omega)
  replace e : back s.P a s.last = back s.P b s.last := by
    have := hr a
    have := hr b
    replace e : back s.P a s.last - 1 = back s.P b s.last - 1 := e
    omega
  have hq : back s.P (b - a) (back s.P 16 s.last) = back s.P 16 s.last := by
    rw [← back_add, show 16 + (b - a) = b + (16 - a) by omega, back_add, ← e, ← back_add, show a + (16 - a) = 16 by omega]
  obtain ⟨m, hm1, hm, hmin⟩ := min_per (b - a) (by omega) hq
  have hra : ∀ i, 1 ≤ back s.P i (back s.P 16 s.last) ∧ back s.P i (back s.P 16 s.last) ≤ 16 := fun i => by rw [← back_add]; exact hr _
  unfold roundOf
  rw [hs]
  simp only
  generalize back s.P 16 s.last = x at *
  have hinj := per_inj hm hmin
  have hm16 : m ≤ 16 := by
    apply Classical.byContradiction
    intro hn
    obtain ⟨i, j, hij, hj, e⟩ := two_same (f := fun i => back s.P i x - 1) (n := 17) (m := 16) (fun i _ => by have := hra i; omega) (by omega)
    have := hra i
    have := hra j
    replace e : back s.P i x - 1 = back s.P j x - 1 := e
    exact hinj i j hij (by omega) (by omega)
  have ho : orbit s.P 18 x [] = (List.range m).map fun i => back s.P i x := orbit_cyc hm1 hm hmin 18 0 (by omega) (by omega)
  rw [ho]
  generalize hR : ((List.range m).map fun i => back s.P i x).reverse = R
  have hRl : R.length = m := by rw [← hR]; simp
  have hRg : ∀ i, i < m → R[i]? = some (back s.P (m - 1 - i) x) := fun i hi => by
    rw [← hR, List.getElem?_reverse (by simpa using hi)]
    rw [List.length_map, List.length_range, List.getElem?_map, List.getElem?_range (by omega)]
    rfl
  have hmem : ∀ i, i < m → back s.P i x ∈ R := fun i hi => List.mem_iff_getElem?.2 ⟨m - 1 - i, by rw [hRg _ (by omega), show m - 1 - (m - 1 - i) = i by omega]⟩
  have hmm : minL R ∈ R := minL_mem (by omega)
  have hk := List.idxOf_lt_length_iff.2 hmm
  have hkg := idxOf_get hmm
  unfold turnL
  generalize List.idxOf (minL R) R = k at *
  have hTl : (R.drop k ++ R.take k).length = m := by simp; omega
  let rf : Nat → Nat := fun i => back s.P (m - 1 - i) x
  let tf : Nat → Nat := fun i => if i + k < m then rf (i + k) else rf (i + k - m)
  have hrf : ∀ i, i + 1 < m → s.P (rf (i + 1)) = rf i := fun i hi => by
    show s.P (back s.P (m - 1 - (i + 1)) x) = back s.P (m - 1 - i) x
    rw [← back_succ s.P (m - 1 - (i + 1)) x, show m - 1 - (i + 1) + 1 = m - 1 - i by omega]
  have hrf0 : s.P (rf 0) = rf (m - 1) := by
    show s.P (back s.P (m - 1 - 0) x) = back s.P (m - 1 - (m - 1)) x
    rw [← back_succ s.P (m - 1 - 0) x, show m - 1 - 0 + 1 = m by omega, hm, Nat.sub_self]; rfl
  have htf : ∀ i, i + 1 < m → s.P (tf (i + 1)) = tf i := fun i hi => by
    show s.P (if i + 1 + k < m then rf (i + 1 + k) else rf (i + 1 + k - m)) = if i + k < m then rf (i + k) else rf (i + k - m)
    by_cases c1 : i + 1 + k < m
    · rw [if_pos c1, if_pos (by omega), show i + 1 + k = (i + k) + 1 by omega, hrf _ (by omega)]
    · rw [if_neg c1]
      by_cases c2 : i + 1 + k = m
      · rw [if_pos (by omega), show i + 1 + k - m = 0 by omega, hrf0, show m - 1 = i + k by omega]
      · rw [if_neg (by omega), show i + 1 + k - m = (i + k - m) + 1 by omega, hrf _ (by omega)]
  have htf0 : s.P (tf 0) = tf (m - 1) := by
    show s.P (if 0 + k < m then rf (0 + k) else rf (0 + k - m)) = if m - 1 + k < m then rf (m - 1 + k) else rf (m - 1 + k - m)
    rw [if_pos (by omega), Nat.zero_add]
    by_cases c1 : k = 0
    · subst c1
      rw [if_pos (by omega), hrf0, Nat.add_zero]
    · rw [if_neg (by omega), show m - 1 + k - m = k - 1 by omega]
      have := hrf (k - 1) (by omega)
      rwa [show k - 1 + 1 = k by omega] at this
  have hTg : ∀ i, i < m → (R.drop k ++ R.take k)[i]? = some (tf i) := fun i hi => by
    show _ = some (if i + k < m then rf (i + k) else rf (i + k - m))
    by_cases c : i + k < m
    · rw [if_pos c, List.getElem?_append_left (by simp; omega), List.getElem?_drop, Nat.add_comm k i, hRg _ c]
    · rw [if_neg c, List.getElem?_append_right (by simp; omega)]
      have e1 : i - (R.drop k).length = i + k - m := by simp; omega
      rw [e1, List.getElem?_take, if_pos (by omega), hRg _ (by omega)]
  have htr : ∀ i, i < m → 1 ≤ tf i ∧ tf i ≤ 16 := fun i hi => by
    show 1 ≤ (if i + k < m then rf (i + k) else rf (i + k - m)) ∧ (if i + k < m then rf (i + k) else rf (i + k - m)) ≤ 16
    split <;> exact hra _
  have hnext : ∀ i, i < m → s.P (tf ((i + 1) % m)) = tf i := fun i hi => by
    by_cases c : i + 1 < m
    · rw [Nat.mod_eq_of_lt c]; exact htf i c
    · rw [show i + 1 = m by omega, Nat.mod_self, htf0, show m - 1 = i by omega]
  have hback : ∀ j, j < m → back s.P j (tf (m - 1)) = tf (m - 1 - j) := by
    intro j
    induction j with
    | zero => intro _; rfl
    | succ j ih =>
      intro hj
      rw [back_succ, ih (by omega)]
      have := htf (m - 1 - (j + 1)) (by omega)
      rw [show m - 1 - (j + 1) + 1 = m - 1 - j by omega] at this
      exact this
  have hbm : back s.P m (tf (m - 1)) = tf (m - 1) := by
    obtain ⟨q, hq2⟩ : ∃ q, m = q + 1 := ⟨m - 1, by omega⟩
    have h1 := hback (m - 1) (by omega)
    rw [Nat.sub_self] at h1
    have h2 := back_succ s.P (m - 1) (tf (m - 1))
    rw [h1, htf0, show m - 1 + 1 = m by omega] at h2
    exact h2
  have hsum : ∀ j, j < m → sumC s.P C (j + 1) (tf j) = rsum (fun i => C (tf i)) (j + 1) := by
    intro j
    induction j with
    | zero => intro _; simp [sumC, rsum]
    | succ j ih =>
      intro hj
      have := ih (by omega)
      show C (tf (j + 1)) + sumC s.P C (j + 1) (s.P (tf (j + 1))) = rsum (fun i => C (tf i)) (j + 1) + C (tf (j + 1))
      rw [htf j hj, this]
      omega
  have hneg := hp.neg m (tf (m - 1)) hm1 hbm (fun i => by
    obtain ⟨j, hj, e⟩ := back_per hm1 hbm i
    rw [e, hback j hj]
    have := htr (m - 1 - j) (by omega)
    omega)
  have hs2 := hsum (m - 1) (by omega)
  rw [show m - 1 + 1 = m by omega] at hs2
  rw [hs2] at hneg
  refine ⟨tf, C, ?_⟩
  constructor
  · rw [hTl]; exact hm1
  · rw [hTl]; exact hm16
  · rw [hTl]; exact hTg
  · rw [hTl]; exact htr
  · rw [hTl]
    intro i j hij hj e
    have hrinj : ∀ p q, p < m → q < m → rf p = rf q → p = q := fun p q hp' hq' e => by
      rcases Nat.lt_trichotomy p q with c | c | c
      · exact absurd e.symm (hinj (m - 1 - q) (m - 1 - p) (by omega) (by omega))
      · exact c
      · exact absurd e (hinj (m - 1 - p) (m - 1 - q) (by omega) (by omega))
    replace e : (if i + k < m then rf (i + k) else rf (i + k - m)) = (if j + k < m then rf (j + k) else rf (j + k - m)) := e
    by_cases c1 : i + k < m
    · by_cases c2 : j + k < m
      · rw [if_pos c1, if_pos c2] at e
        have := hrinj _ _ c1 c2 e
        omega
      · rw [if_pos c1, if_neg c2] at e
        have := hrinj _ _ c1 (by omega) e
        omega
    · rw [if_neg c1, if_neg (by omega)] at e
      have := hrinj _ _ (by omega) (by omega) e
      omega
  · rw [hTl]
    intro i hi
    have h0 : tf 0 = minL R := by
      have h1 := hTg 0 (by omega)
      have h2 : (R.drop k ++ R.take k)[0]? = some (minL R) := by
        rw [List.getElem?_append_left (by simp; omega), List.getElem?_drop, Nat.add_zero]; exact hkg
      rw [h1] at h2
      exact Option.some.inj h2
    rw [h0]
    refine minL_le ?_
    have := List.mem_iff_getElem?.2 ⟨i, hTg i hi⟩
    rcases List.mem_append.1 this with h | h
    · exact List.mem_of_mem_drop h
    · exact List.mem_of_mem_take h
  · rw [hTl]
    intro i hi
    have h1 := htr i hi
    have h2 := hnext i hi
    have := hp.edge (tf ((i + 1) % m)) (by rw [h2]; omega)
    rwa [h2] at this
  · rw [hTl, rsum_next (fun i => C (tf i)) m hm1]
    exact hneg
end
end Go.Proofs.Ytglehneaphigdaa
